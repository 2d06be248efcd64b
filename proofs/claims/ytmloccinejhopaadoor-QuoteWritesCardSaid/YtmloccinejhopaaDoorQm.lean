/- Texts in quotes: what the rows list, and a world that holds it. -/
import Derived.Test.YtmloccinejhopaaDoorRows
import Derived.Test.YtmloccinejhopaaDoorQl
import Derived.Test.YtmloccinejhopaaDoorBp
import Derived.Lib.LaidIn
import Derived.Lib.LaidU8T
import Derived.Deep.DeepHandedRow
import Derived.Deep.DeepWitnessRowRef
set_option linter.unusedVariables false
set_option linter.unusedSimpArgs false
namespace Go.Proofs.YtmloccinejhopaaDoor
open Go Go.Sl Go.Qt Go.Lib Go.Shelf

def laidL : List (String × DataW Unit) := [("unicode/utf8.acceptRanges", Rows.laid_unicode_utf8_acceptRanges), ("unicode/utf8.first", Rows.laid_unicode_utf8_first)]
theorem cell_old {W w : World} (h : Sat [old W] w) {a : Addr} {v : Value} (hc : W.cell? a = some v) : w.cell? a = some v := by
  have hs := h.old_same
  have hlt : a.block < W.heap.size := by
    rcases Nat.lt_or_ge a.block W.heap.size with h' | h'
    · exact h'
    · simp only [World.cell?] at hc
      rw [Array.getElem?_eq_none h'] at hc
      cases hc
  have e := hs a.block hlt
  simp only [World.cell?] at hc ⊢
  rw [e]; exact hc
theorem pin_first : Rows.laid_unicode_utf8_first = Lib.firstData := by kernel_rfl
theorem pin_accept : (Rows.laid_unicode_utf8_acceptRanges : DataW Unit) = Lib.acceptData := by kernel_rfl
theorem mem_first : ("unicode/utf8.first", Lib.firstData) ∈ laidL := by rw [← pin_first]; exact .tail _ (.head _)
theorem mem_accept : ("unicode/utf8.acceptRanges", Lib.acceptData) ∈ laidL := by rw [← pin_accept]; exact .head _
theorem tabs_old {W : World} (hL : laidMetH Tryd.prog laidL W) : Tabs [old W] := by
  have htab : Lib.Utf8Tabs 0 1 W :=
    utf8Tabs_of_readsT (U8Types.of196 Tryd.lays196) ⟨by kernel_rfl, by kernel_rfl, by kernel_rfl, by kernel_rfl, by kernel_rfl, by kernel_rfl, by kernel_rfl⟩ (Lib.laidMet.reads hL mem_first) (Lib.laidMet.reads hL mem_accept)
  intro w hw
  exact ⟨fun c hc => cell_old hw (htab.1 c hc), fun i hi => ⟨cell_old hw (htab.2 i hi).1, cell_old hw (htab.2 i hi).2⟩⟩
/-- The settled world, the two tables holding what their initialisers lay. -/
noncomputable def laidWorld (os : Os) : World :=
  let w0 := World.holding Tryd.prog os ⟨#[], #[], []⟩
  let put (h : Array Obj) (g : Nat) (cs : Array Value) : Array Obj := h.modify g fun
    | .cells _ t frozen => .cells cs t frozen
    | o => o
  let h1 := put w0.heap 0 (Lib.firstTab.map fun z => Value.int .u8 z).toArray
  let h2 := put h1 1 ((List.range 16).flatMap fun i => [Value.int .u8 (Lib.accLo i), Value.int .u8 (Lib.accHi i)]).toArray
  { w0 with heap := h2 }
theorem laid_met (os : Os) (args : Array Value) : laidMet Tryd.prog laidL ((laidWorld os).forCall (fun _ _ => 0) ⟨#[], args, []⟩).memory :=
  (LaidIn.of_run (l := laidL) [0, 1] 8 (by kernel_rfl) (by kernel_rfl) (by kernel_rfl) (by kernel_rfl)).met
theorem str_of (s : ByteArray) : Value.string s = str s.data.toList := by
  obtain ⟨d⟩ := s
  simp
end Go.Proofs.YtmloccinejhopaaDoor
