/- What functions of the given program do in the ideal machine (N2), and the plain laws of what they answer; the conditions stand in each theorem. -/
import Derived.Test.YtoamjmokonnglaaIf
import Derived.Test.YtoamjmokonnglaaJb
import Derived.Test.YtoamjmokonnglaaTb
import Derived.Test.YtoamjmokonnglaaChecked
set_option linter.all false
set_option linter.unusedSectionVars false
set_option linter.unusedSimpArgs false
set_option linter.unusedVariables false
namespace Go.Proofs
open Go Go.Idl Go.Dt
set_option linter.unusedSimpArgs false
variable {b : Nat}
theorem list_dec {α : Type} {f : α → Vl} {ag : Bool} : ∀ {ys : List (List Vl)}, (∀ y ∈ ys, ∃ a, mkE ag y = f a) → ∃ l : List α, ys.map (mkE ag) = l.map f ∧ l.length = ys.length
  | [], _ => ⟨[], rfl, rfl⟩
  | y :: ys, h => by
    obtain ⟨a, ha⟩ := h y List.mem_cons_self
    obtain ⟨l, hl, hn⟩ := list_dec fun y' hy' => h y' (List.mem_cons_of_mem _ hy')
    exact ⟨a :: l, by rw [List.map_cons, List.map_cons, ha, hl], by simp [hn]⟩
structure UT (P : Program) : Prop where
  u3 : P.underlying 3 = some (.int .i64)
  u28 : P.underlying 28 = some (.struct #[{ name := "Low", type := 3, offset := 0, embedded := false, tag := "", pkgPath := "", byteOffset := 0 }, { name := "High", type := 3, offset := 1, embedded := false, tag := "", pkgPath := "", byteOffset := 8 }])
  u30 : P.underlying 30 = some (.struct #[{ name := "Kind", type := 3, offset := 0, embedded := false, tag := "", pkgPath := "", byteOffset := 0 }, { name := "Stone", type := 3, offset := 1, embedded := false, tag := "", pkgPath := "", byteOffset := 8 }, { name := "Other", type := 3, offset := 2, embedded := false, tag := "", pkgPath := "", byteOffset := 16 }, { name := "Years", type := 26, offset := 3, embedded := false, tag := "", pkgPath := "", byteOffset := 24 }, { name := "Span", type := 28, offset := 4, embedded := false, tag := "", pkgPath := "", byteOffset := 48 }])
  u25 : P.underlying 25 = some (.struct #[{ name := "Stones", type := 3, offset := 0, embedded := false, tag := "", pkgPath := "", byteOffset := 0 }, { name := "Eras", type := 22, offset := 1, embedded := false, tag := "", pkgPath := "", byteOffset := 8 }, { name := "Notes", type := 23, offset := 2, embedded := false, tag := "", pkgPath := "", byteOffset := 32 }])
  u22 : P.underlying 22 = some (.slice 28)
  u23 : P.underlying 23 = some (.slice 30)
  u26 : P.underlying 26 = some (.slice 3)
  c28 : P.cellsOf 28 = 2 ∧ aggT P 28 = true
  c30 : P.cellsOf 30 = 6 ∧ aggT P 30 = true
  c3 : P.cellsOf 3 = 1 ∧ aggT P 3 = false
variable {P : Program}
theorem ty3 (U : UT P) {d : Nat} {xs : List Vl} (h : TyL P (d + 1) 3 xs) : ∃ n, xs = [I n] := by
  simp only [TyL, U.u3] at h
  obtain ⟨n, h, _⟩ := h
  exact ⟨n, h⟩
theorem ty28 (U : UT P) {d : Nat} {xs : List Vl} (h : TyL P (d + 2) 28 xs) : ∃ a c, xs = [I a, I c] := by
  unfold TyL at h
  simp only [U.u28, TyF] at h
  obtain ⟨y1, z1, rfl, h1, y2, z2, rfl, h2, rfl⟩ := h
  obtain ⟨a, rfl⟩ := ty3 U h1
  obtain ⟨c, rfl⟩ := ty3 U h2
  exact ⟨a, c, rfl⟩
theorem ty26 (U : UT P) {d : Nat} {xs : List Vl} (h : TyL P (d + 2) 26 xs) : ∃ l : List Int, xs = [SL 1 (l.map I) (some false)] ∧ l.length ≤ maxLen := by
  unfold TyL at h
  simp only [U.u26, U.c3.1, U.c3.2] at h
  obtain ⟨ys, rfl, hl, h⟩ := h
  obtain ⟨l, e, hn⟩ := list_dec (f := I) (ag := false) fun y hy => by
    obtain ⟨n, rfl⟩ := ty3 U (h y hy)
    exact ⟨n, rfl⟩
  exact ⟨l, by rw [e]; rfl, by omega⟩
theorem ty30 (U : UT P) {d : Nat} {xs : List Vl} (h : TyL P (d + 3) 30 xs) : ∃ n : Nt, .agg xs = encN n := by
  unfold TyL at h
  simp only [U.u30, TyF] at h
  obtain ⟨y1, z1, rfl, h1, y2, z2, rfl, h2, y3, z3, rfl, h3, y4, z4, rfl, h4, y5, z5, rfl, h5, rfl⟩ := h
  obtain ⟨a, rfl⟩ := ty3 U h1
  obtain ⟨c, rfl⟩ := ty3 U h2
  obtain ⟨e, rfl⟩ := ty3 U h3
  obtain ⟨l, rfl, _⟩ := ty26 U h4
  obtain ⟨p, q, rfl⟩ := ty28 U h5
  exact ⟨⟨a, c, e, p, q, l, some false⟩, rfl⟩
theorem ty22 (U : UT P) {d : Nat} {xs : List Vl} (h : TyL P (d + 4) 22 xs) : ∃ l : List (Int × Int), xs = [.lst 2 (l.map encS) false] := by
  unfold TyL at h
  simp only [U.u22, U.c28.1, U.c28.2] at h
  obtain ⟨ys, rfl, hl, h⟩ := h
  obtain ⟨l, e, hn⟩ := list_dec (f := encS) (ag := true) fun y hy => by
    obtain ⟨a, c, rfl⟩ := ty28 U (h y hy)
    exact ⟨(a, c), rfl⟩
  exact ⟨l, by rw [e]⟩
theorem ty23 (U : UT P) {d : Nat} {xs : List Vl} (h : TyL P (d + 4) 23 xs) : ∃ l : List Nt, xs = [.lst 6 (l.map encN) false] := by
  unfold TyL at h
  simp only [U.u23, U.c30.1, U.c30.2] at h
  obtain ⟨ys, rfl, hl, h⟩ := h
  obtain ⟨l, e, hn⟩ := list_dec (f := encN) (ag := true) fun y hy => ty30 U (h y hy)
  exact ⟨l, by rw [e]⟩
theorem ty25 (U : UT P) {xs : List Vl} (h : TyL P 6 25 xs) : ∃ d : Dt, .agg xs = encD (some false) (some false) d := by
  unfold TyL at h
  simp only [U.u25, TyF] at h
  obtain ⟨y1, z1, rfl, h1, y2, z2, rfl, h2, y3, z3, rfl, h3, rfl⟩ := h
  obtain ⟨a, rfl⟩ := ty3 U h1
  obtain ⟨es, rfl⟩ := ty22 U h2
  obtain ⟨ns, rfl⟩ := ty23 U h3
  exact ⟨⟨a, es, ns⟩, rfl⟩
theorem UT_try : UT Try.prog where
  u3 := Try.underlying3
  u28 := Try.underlying28
  u30 := Try.underlying30
  u25 := Try.underlying25
  u22 := Try.underlying22
  u23 := Try.underlying23
  u26 := Try.underlying26
  c28 := ⟨by kernel_rfl, by kernel_rfl⟩
  c30 := ⟨by kernel_rfl, by kernel_rfl⟩
  c3 := ⟨by kernel_rfl, by kernel_rfl⟩
end Go.Proofs
