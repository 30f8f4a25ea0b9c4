/- What functions of the given program do in the ideal machine (KB), and the plain laws of what they answer; the conditions stand in each theorem. -/
import Derived.Test.YtoamjmokonnglaaDoorProg
import Derived.Shelf.RegionOpenPlain
import Derived.Lib.Strings
import Derived.Lib.Slices
import Derived.Lib.Walk
import Derived.Lib.Builder
import Derived.Lib.AppendStr
import Derived.Lib.UnsafeStr
import Derived.Lib.MakeNoZero
import Derived.WalkKit
import Derived.Laws.Externs
import Derived.Laws.IdiomCopy
import Derived.Laws.BitsLemmas
import Derived.Test.YtoamjmokonnglaaDoorIf
set_option linter.all false
set_option linter.unusedSectionVars false
set_option linter.unusedSimpArgs false
set_option linter.unusedVariables false
namespace Go.Proofs
open Go Go.RowKit Go.Idl
set_option maxHeartbeats 2000000
set_option maxRecDepth 100000
theorem kb_info : ∃ j, Tryd.prog.info? 73 = some j ∧ j.size = 2 := by
  have : (Tryd.prog.info? 73).map (·.size) = some 2 := by kernel_rfl
  obtain ⟨j, h1, h2⟩ := Option.map_eq_some_iff.1 this
  exact ⟨j, h1, h2⟩
theorem kb_byte : ∃ i, Tryd.prog.info? 5 = some i ∧ i.zero = some (.int .u8 0) ∧ i.size = 1 ∧ i.bytes = 1 := by
  have : (Tryd.prog.info? 5).map (fun i => (i.zero, i.size, i.bytes)) = some (some (.int .u8 0), 1, 1) := by kernel_rfl
  obtain ⟨i, h1, h2⟩ := Option.map_eq_some_iff.1 this
  injection h2 with h3 h4
  injection h4 with h4 h5
  exact ⟨i, h1, h3, h4, h5⟩
theorem kb_used (b : Nat) (w : World) (h0 : w.cell? ⟨b, 0, none⟩ = some (.pointer (some ⟨b, 0, none⟩))) :
    Calls Tryd.prog 52 #[.pointer (some ⟨b, 0, none⟩)] w fun e w' => e = .returned (.tuple #[]) ∧ w' = w := by
  obtain ⟨j, hj, _⟩ := kb_info
  go_enter Tryd.func52, Tryd.ntmps52
  go_wp2
  rw [Lib.run_neq_ptr_same w _ Tryd.underlying70 hj]
  go_wp2
  go_end0
  exact ⟨rfl, rfl⟩
theorem kb_fresh (b : Nat) (w : World) (h0 : w.cell? ⟨b, 0, none⟩ = some (.pointer none)) (hsh : w.shape? b = some (73, 2)) (hfz : w.frozen? ⟨b, 0, none⟩ = false) :
    Calls Tryd.prog 52 #[.pointer (some ⟨b, 0, none⟩)] w fun e w' => e = .returned (.tuple #[]) ∧ w' = w.setCell ⟨b, 0, none⟩ (.pointer (some ⟨b, 0, none⟩)) := by
  obtain ⟨j, hj, hjs⟩ := kb_info
  go_enter Tryd.func52, Tryd.ntmps52
  go_wp2
  rw [Lib.run_to_unsafe w ⟨b, 0, none⟩ Tryd.underlying70 Tryd.underlying122 hj (by rw [hjs]; decide) hsh (Nat.zero_lt_succ 1)]
  simp only [Result.andThen]
  rw [Oper.upon_value]
  go_wp2
  rw [run_callFunc_extern Tryd.func68 (by kernel_rfl) (by kernel_rfl) (by kernel_rfl) (e := Extern.AbiNoEscape.same) (by kernel_rfl)]
  rw [Lib.run_noEscape]
  simp only [Result.andThen]
  rw [Oper.upon_value]
  go_wp2
  rw [Lib.run_from_unsafe w ⟨b, 0, none⟩ Tryd.underlying122 Tryd.underlying70 hj hsh (by kernel_rfl)]
  simp only [Result.andThen]
  rw [Oper.upon_value]
  go_wp2
  go_end0
  exact ⟨rfl, rfl⟩
theorem kb_check (b : Nat) (p v : Value) (w : World) (hp : p = .pointer none ∨ p = .pointer (some ⟨b, 0, none⟩)) (hb : w.heap[b]? = some (.cells #[p, v] 73 (0, 0))) :
    Calls Tryd.prog 52 #[.pointer (some ⟨b, 0, none⟩)] w fun e w' => e = .returned (.tuple #[]) ∧ w'.heap[b]? = some (.cells #[.pointer (some ⟨b, 0, none⟩), v] 73 (0, 0)) ∧ w.grownBy w' (some b) ∧ w'.heap.size = w.heap.size := by
  rcases hp with rfl | rfl
  · refine (kb_fresh b w (by rw [Lib.cell_of_heap hb]; rfl) (by simp [World.shape?, hb]) (by rw [Lib.frozen_of_heap hb])).mono ?_
    rintro e w' ⟨rfl, rfl⟩
    exact ⟨rfl, by simp [World.setCell, Array.getElem?_modify, hb], ⟨rfl, rfl, rfl, by simp [World.setCell], fun k _ hk => Below.heap_setCell _ _ _ _ (fun e => hk (by simp [e]))⟩, by simp [World.setCell]⟩
  · refine (kb_used b w (by rw [Lib.cell_of_heap hb]; rfl)).mono ?_
    rintro e w' ⟨rfl, rfl⟩
    exact ⟨rfl, hb, ⟨rfl, rfl, rfl, Nat.le_refl _, fun _ _ _ => rfl⟩, rfl⟩
theorem wpList_own_string {ops : Array Oper} {rest : List Oper} {o : Oper} {a : Act} {Q : Exit → Act → World → Prop} {w : World} (hgd : o.guard = none) (sl x : Operand)
    (ho : o.op = .call { callee := .builtin .append, args := #[sl, x], argTypes := #[71, 9] }) (v : Value) (n : Nat) (xs : List Value) (hs : a.eval sl = v) (hown : w.ownsRow 0 5 1 v n xs) (s : ByteArray) (hx : a.eval x = .string s)
    (hbytes : n + s.size ≤ 140737488355328)
    (h : ∀ v' w', w'.ownsRow 0 5 1 v' (n + s.size) (xs ++ Lib.strCells s) → w.grownBy w' v.ownBlock → (∀ g, v'.ownBlock = some g → v.ownBlock = some g ∨ w.heap.size ≤ g) → wpList Tryd.prog ops Q rest (a.put o.dst v') w') : wpList Tryd.prog ops Q (o :: rest) a w := by
  refine wpList_plain hgd fun K hK => ?_
  obtain ⟨i, hi, hz, h1, h2⟩ := kb_byte
  obtain ⟨v', w', hr, h2, h3, h4⟩ := own_string (P := Tryd.prog) 71 9 o.type 5 i Tryd.underlying71 Tryd.underlying9 hi hz h1 h2 v n xs hown s hbytes
  unfold Oper.wp execOp
  simp only [ho, resolve, invoke, builtin, Sem.run_bind, Sem.run_pure, Result.andThen_ok, List.map_toArray, List.map_cons, List.map_nil, hs, hx, hr]
  exact hK _ _ (h v' w' h2 h3 h4)
theorem kb_grown {b : Nat} {v' : Value} {w : World} : w.grownBy (w.setCell ⟨b, 1, none⟩ v') (some b) :=
  ⟨rfl, rfl, rfl, by simp [World.setCell], fun k _ hk => Below.heap_setCell _ _ _ _ (fun e => hk (by simp [e]))⟩
theorem kb_end {b n : Nat} {v v' : Value} {w w1 w2 : World} {l' : List UInt8} {bs : List Value} {t e : TypeId} (hgr : w.grownBy w1 (some b)) (hsz : w1.heap.size = w.heap.size) (hgr2 : w1.grownBy w2 v.ownBlock)
    (hb2 : w2.heap[b]? = some (.cells #[.pointer (some ⟨b, 0, none⟩), v] t (0, 0))) (hne : v.ownBlock ≠ some b) (hown : w2.ownsRow 0 e 1 v' n bs) (hn : n = l'.length) (hbs : bs = Lib.byteCells l')
    (hat : ∀ g, v'.ownBlock = some g → v.ownBlock = some g ∨ w.heap.size ≤ g) (hbw : b < w.heap.size) :
    (w2.setCell ⟨b, 1, none⟩ v').os = w.os ∧ (w2.setCell ⟨b, 1, none⟩ v').tape = w.tape ∧ (w2.setCell ⟨b, 1, none⟩ v').output = w.output ∧ w.heap.size ≤ (w2.setCell ⟨b, 1, none⟩ v').heap.size ∧
      (∀ k, k < w.heap.size → k ≠ b → v.ownBlock ≠ some k → (w2.setCell ⟨b, 1, none⟩ v').heap[k]? = w.heap[k]?) ∧
      ∀ l, some l' = some l → ∃ p u, (p = .pointer none ∨ p = .pointer (some ⟨b, 0, none⟩)) ∧ (w2.setCell ⟨b, 1, none⟩ v').heap[b]? = some (.cells #[p, u] t (0, 0)) ∧ (w2.setCell ⟨b, 1, none⟩ v').ownsRow 0 e 1 u l.length (Lib.byteCells l) ∧ u.ownBlock ≠ some b ∧
        ∀ g, u.ownBlock = some g → v.ownBlock = some g ∨ w.heap.size ≤ g := by
  have hgr3 : w2.grownBy (w2.setCell ⟨b, 1, none⟩ v') (some b) := kb_grown
  have hne' : v'.ownBlock ≠ some b := fun h => by
    rcases hat b h with h | h
    · exact hne h
    · omega
  refine ⟨hgr3.os.trans (hgr2.os.trans hgr.os), hgr3.tape.trans (hgr2.tape.trans hgr.tape), hgr3.output.trans (hgr2.output.trans hgr.output), by have := hgr.size; have := hgr2.size; have := hgr3.size; omega, fun k hk hkb hkv => ?_, ?_⟩
  · rw [hgr3.block k (by have := hgr.size; have := hgr2.size; omega) (fun h => hkb (by simpa using h)), hgr2.block k (by have := hgr.size; omega) (fun h => hkv h.symm), hgr.block k hk (fun h => hkb (by simpa using h))]
  · intro l hl
    injection hl with hl
    subst hl
    refine ⟨_, v', .inr rfl, by simp [World.setCell, Array.getElem?_modify, hb2], ?_, hne', fun g hg => ?_⟩
    · subst hn; subst hbs
      exact hown.kept hgr3 (.inr hne')
    · exact hat g hg
theorem kb_ws : BldOk Tryd.prog 34 .ws 73 5 := by
  refine ⟨⟨_, Tryd.func34, rfl⟩, fun b p v l w hp hb hown hne s hlen => ?_⟩
  unfold BldC
  go_enter Tryd.func34, Tryd.ntmps34
  go_wp2_with (go_at_call 52; refine (kb_check b p v _ hp hb).mono ?_)
  rintro e w1 ⟨rfl, hbk, hgr, hsz⟩
  have hown1 : w1.ownsRow 0 5 1 v l.length (Lib.byteCells l) := hown.kept hgr (.inr hne)
  have c0 : w1.cell? ⟨b, 0, none⟩ = some (.pointer (some ⟨b, 0, none⟩)) := by rw [Lib.cell_of_heap hbk]; rfl
  have c1 : w1.cell? ⟨b, 1, none⟩ = some v := by rw [Lib.cell_of_heap hbk]; rfl
  go_wp2_with (at_builtin; refine wpList_own_string rfl _ _ rfl v l.length (Lib.byteCells l) rfl hown1 s rfl hlen ?_)
  intro v' w2 hown' hgr2 hat
  have hlt : b < w1.heap.size := by
    rcases Nat.lt_or_ge b w1.heap.size with h' | h'
    · exact h'
    · simp [Array.getElem?_eq_none h'] at hbk
  have hb2 : w2.heap[b]? = some (.cells #[.pointer (some ⟨b, 0, none⟩), v] 73 (0, 0)) := by rw [hgr2.block b hlt (fun e => hne e.symm)]; exact hbk
  have d0 : w2.cell? ⟨b, 0, none⟩ = some (.pointer (some ⟨b, 0, none⟩)) := by rw [Lib.cell_of_heap hb2]; rfl
  have d1 : w2.cell? ⟨b, 1, none⟩ = some v := by rw [Lib.cell_of_heap hb2]; rfl
  have f1 : w2.frozen? ⟨b, 1, none⟩ = false := Lib.frozen_of_heap hb2 1
  have hall := kb_end (l' := l ++ s.data.toList) hgr hsz hgr2 hb2 hne hown' (by rw [List.length_append]; rfl) (by unfold Lib.strCells Lib.byteCells; rw [List.map_append]) hat (by omega)
  obtain ⟨ao, n', cap, rfl⟩ : ∃ ao n' cap, v' = .slice ao n' cap := by
    rcases hown'.2 with ⟨hv, _⟩ | ⟨g, cap, cur, hv, _⟩
    · exact ⟨_, _, _, hv⟩
    · exact ⟨_, _, _, hv⟩
  clear hown' hat
  go_wp2
  go_ret2
  exact ⟨rfl, hall⟩
end Go.Proofs
