/- What functions of the given program do in the ideal machine (JL), and the plain laws of what they answer; the conditions stand in each theorem. -/
import Derived.Test.YtoamjmokonnglaaDoorJk
import Derived.Lib.AppendIntMem
import Derived.Test.YtoamjmokonnglaaDoorCs
import Derived.Test.YtoamjmokonnglaaDoorCm
import Derived.Lib.ItoaNum
set_option linter.all false
set_option linter.unusedSectionVars false
set_option linter.unusedSimpArgs false
set_option linter.unusedVariables false
namespace Go.Proofs
open Go Go.Idl Go.Dt
def digs : Nat → Nat → List UInt8
  | 0, _ => []
  | k + 1, u => if u < 10 then [UInt8.ofNat (48 + u)] else digs k (u / 10) ++ [UInt8.ofNat (48 + u % 10)]
theorem digs_eq : ∀ (k u : Nat), u < 10 ^ k → 0 < k → digs k u = Lib.decDigits u
  | 0, _, _, h => absurd h (Nat.lt_irrefl 0)
  | k + 1, u, h, _ => by
    rw [Lib.decDigits]
    unfold digs
    by_cases hu : u < 10
    · rw [if_pos hu, dif_pos hu]
    · rw [if_neg hu, dif_neg hu]
      have hk : 0 < k := by
        rcases Nat.eq_zero_or_pos k with rfl | h'
        · omega
        · exact h'
      rw [digs_eq k (u / 10) (by rw [Nat.pow_succ] at h; omega) hk]
def itoaV : List Vl → Option Vl
  | [.int .i64 n] => if 0 ≤ n ∧ n < 1000000 then some (.str ⟨(digs 6 n.toNat).toArray⟩) else if -1000000 < n ∧ n < 0 then some (.str ⟨(45 :: digs 6 n.natAbs).toArray⟩) else none
  | _ => none
def extL (g : Nat) : Option (List Vl → Option Vl) := if g = 53 then some (itoaV) else if g = 7 then some (tabX t7) else if g = 8 then some (tabX t8) else if g = 12 then some (tabX t12) else if g = 14 then some (tabX t14) else if g = 15 then some (tabX t15) else none
def bldL (g : Nat) : Option (BK × TypeId × TypeId) := if g = 34 then some (.ws, 73, 5) else if g = 36 then some (.str, 73, 5) else none
noncomputable abbrev AL : Ann := { mkAnn locT keepT ghoT finT heapT extL with bld := bldL }
theorem itoa_call (args : List Vl) (r : Vl) (h : itoaV args = some r) : PCall Tryd.prog 53 args r := by
  unfold itoaV at h
  split at h
  case h_2 => cases h
  rename_i n
  have hr : -9223372036854775808 ≤ n ∧ n ≤ 9223372036854775807 ∧ r = .str ⟨(Lib.itoa n).toArray⟩ := by
    split at h
    · rename_i hn
      cases h
      refine ⟨by omega, by omega, ?_⟩
      unfold Lib.itoa
      rw [if_neg (by omega), digs_eq 6 n.toNat (by omega) (by decide)]
    · split at h
      · rename_i hn
        cases h
        refine ⟨by omega, by omega, ?_⟩
        unfold Lib.itoa
        rw [if_pos (by omega), digs_eq 6 n.natAbs (by omega) (by decide)]
      · cases h
  obtain ⟨h0, h1, rfl⟩ := hr
  intro F m K w vs hF hK hv
  have hvs : vs = [.int .i64 n] := by
    cases hv with
    | cons a t => cases t; cases a; rfl
  subst hvs
  refine ⟨⟨_, Tryd.func53, rfl⟩, callsIn_of hF ?_⟩
  obtain ⟨g, hg⟩ : ∃ g, Tryd.prog.globalNamed "internal/strconv.uint64pow10" = some g := by
    have : (Tryd.prog.globalNamed "internal/strconv.uint64pow10").isSome = true := by kernel_rfl
    exact Option.isSome_iff_exists.1 this
  have htab := (hF.tabs ("internal/strconv.uint64pow10", .u64, Lib.pow10Tab) (by simp [tabList]) g hg).2
  refine (Tryd.strconv_Itoa n h0 h1 w htab).mono ?_
  rintro e w' ⟨rfl, k, os, rfl⟩
  exact ⟨_, rfl, Lib.below_grow w.heap.size w (Nat.le_refl _) k os, .str _, rfl⟩
theorem ext_law : ExtOk Tryd.prog AL := .mk (fun g h args r hg hr => by
  have hg : extL g = some h := hg
  unfold extL at hg
  split at hg
  · rename_i e
    subst e
    cases hg
    exact itoa_call args r hr
  · skip
    split at hg
    · rename_i e
      subst e
      cases hg
      exact tabX_sound t7_ok hr
    · skip
      split at hg
      · rename_i e
        subst e
        cases hg
        exact tabX_sound t8_ok hr
      · skip
        split at hg
        · rename_i e
          subst e
          cases hg
          exact tabX_sound t12_ok hr
        · skip
          split at hg
          · rename_i e
            subst e
            cases hg
            exact tabX_sound t14_ok hr
          · skip
            split at hg
            · rename_i e
              subst e
              cases hg
              exact tabX_sound t15_ok hr
            · skip
              cases hg) (fun g k h => by
  have h : bldL g = some k := h
  unfold bldL at h
  split at h
  · rename_i e; subst e; cases h; exact kb_ws
  · split at h
    · rename_i e; subst e; cases h; exact kb_str
    · cases h)
end Go.Proofs
