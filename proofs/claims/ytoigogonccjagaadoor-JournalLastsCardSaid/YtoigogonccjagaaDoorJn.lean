/- Journals: what the rows list (the handle of the type error), and a world that holds it; bodies as a row hands them in. -/
import Derived.Test.YtoigogonccjagaaDoorRows
import Derived.Test.YtoigogonccjagaaDoorJk
import Derived.Test.YtoigogonccjagaaDoorBp
import Derived.RowKitTokens
import Derived.LaidLaws
import Derived.LaidHandle
import Derived.Deep.DeepHandedRow
import Derived.Deep.DeepWitnessRowRef
set_option linter.unusedVariables false
set_option linter.unusedSimpArgs false
namespace Go.Proofs.YtoigogonccjagaaDoor
open Go Go.Sl Go.Jn Go.ChangeShapes Go.WideShapes Go.RowKit

def laidL : List (String × DataW Unit) := [("errors.errorType", Rows.laid_errors_errorType)]
/-- The handle of the type error. -/
abbrev errH : Value := .iface 132 (.agg #[.pointer (some ⟨1, 71, none⟩)])
/-- What the rows list lies in its place. -/
def ErrC (F : List Assn) : Prop := ∀ w, Sat F w → w.cell? ⟨0, 0, none⟩ = some errH
theorem et_no : Tryd.prog.globalNamed "errors.errorType" = some 0 := by kernel_rfl
theorem rt_no : (Tryd.prog.cutTypes.find? (·.1 == "internal/reflectlite.rtype")).map (·.2) = some 132 := by kernel_rfl
theorem types_size : ∃ n, Tryd.prog.types.size = n ∧ ((List.range n).filter fun t => Tryd.prog.rowNamed t [101, 114, 114, 111, 114]) = [71] := ⟨_, rfl, by kernel_rfl⟩
theorem handle_of_laid {W : World} (h : laidMetH Tryd.prog laidL W) : W.cell? ⟨0, 0, none⟩ = some errH := by
  have h' : laidMet Tryd.prog [] W ∧ handlesMet Tryd.prog laidL W := h
  obtain ⟨name, u, ty, e1, e2, e3, e4, e5⟩ := h'.2 _ (List.mem_singleton.2 rfl)
  have en : name = [101, 114, 114, 111, 114] := (Option.some.inj e1).symm
  subst en
  obtain rfl := Option.some.inj (rt_no.symm.trans e2)
  obtain ⟨n, hn, hr⟩ := types_size
  have hm : ty ∈ (List.range n).filter fun t => Tryd.prog.rowNamed t [101, 114, 114, 111, 114] := List.mem_filter.2 ⟨List.mem_range.2 (by rw [← hn]; exact e3), e4⟩
  rw [hr] at hm
  obtain rfl := List.mem_singleton.1 hm
  have hh : typeHandle Tryd.prog 71 = .pointer (some ⟨1, 71, none⟩) := by kernel_rfl
  rw [hh] at e5
  simpa using World.var?_cell et_no e5 0
theorem cell_old {W w : World} (h : Sat [old W] w) {a : Addr} {v : Value} (hc : W.cell? a = some v) : w.cell? a = some v := by
  have hs := h.old_same
  have hlt : a.block < W.heap.size := by
    rcases Nat.lt_or_ge a.block W.heap.size with h' | h'
    · exact h'
    · simp only [World.cell?] at hc
      rw [Array.getElem?_eq_none h'] at hc
      cases hc
  have e := hs a.block hlt
  simp only [World.cell?] at hc ⊢
  rw [e]; exact hc
theorem errC_old {W : World} (hL : laidMetH Tryd.prog laidL W) : ErrC [old W] := fun w hw => cell_old hw (handle_of_laid hL)
/-- The settled world, the variable's cell laid. -/
noncomputable def laidWorld (os : Os) : World :=
  let w0 := World.holding Tryd.prog os ⟨#[], #[], []⟩
  { w0 with heap := w0.heap.modify 0 fun
      | .cells _ t frozen => .cells #[errH] t frozen
      | o => o }
theorem laid_met (os : Os) (args : Array Value) : laidMetH Tryd.prog laidL ((laidWorld os).forCall (fun _ _ => 0) ⟨#[], args, []⟩).memory :=
  laidMetH_of_parts (laidMet_nil _ _) (by kernel_rfl)
structure BdR where
  q : Option Addr
  c : Nat
  l : Bs
instance : Inhabited BdR := ⟨⟨none, 0, []⟩⟩
def BdR.row (y : BdR) : List Value := [.slice y.q y.l.length y.c]
structure BdR.ok (F : List Assn) (y : BdR) : Prop where
  h : RdS F 1 (.slice y.q y.l.length y.c) y.l.length (bytesV y.l)
  few : y.l.length ≤ 9223372036854775807
theorem bd_dec {H : Type} {enc : TypeId × Value → H} {W : World} (n : Nat) (cs : List Value) (x : DataW H × List MemPlace) (h : DataW.trod enc Tryd.prog W 0 (fun _ => true) true n 22 cs = some x) : ∃ y : BdR, cs = y.row ∧ y.row.length = 1 ∧ y.ok [old W] := by
  obtain ⟨q, c, l, rfl, h1, h2, hr⟩ := open_bytes_rd Tryd.underlying22 Tryd.underlying5 (by kernel_rfl) h
  exact ⟨⟨q, c, l⟩, rfl, rfl, ⟨hr, Nat.le_trans (Nat.le_trans h1 h2) (by decide)⟩⟩
end Go.Proofs.YtoigogonccjagaaDoor
