/- Tokens: what a row's first world gives: the library's variable holds some number. -/
import Derived.Test.YtcahpllliflloaaBp
import Derived.Test.YtcahpllliflloaaKc
import Derived.Shelf.Vars
set_option linter.unusedVariables false
set_option linter.unusedSimpArgs false
namespace Go.Proofs.Ytcahpllliflloaa
open Go Go.Sl Go.Tk

theorem cell_old {W w : World} (h : Sat [old W] w) {a : Addr} {v : Value} (hc : W.cell? a = some v) : w.cell? a = some v := by
  have hs := h.old_same
  have hlt : a.block < W.heap.size := by
    rcases Nat.lt_or_ge a.block W.heap.size with h' | h'
    · exact h'
    · simp only [World.cell?] at hc
      rw [Array.getElem?_eq_none h'] at hc
      cases hc
  have e := hs a.block hlt
  simp only [World.cell?] at hc ⊢
  rw [e]; exact hc
theorem maxC_old {W : World} (h : W.ShapedOpen Try.prog) : MaxC [old W] := fun w hw => by
  obtain ⟨m, hm⟩ : ∃ m, W.cell? ⟨0, 0, none⟩ = some (.int .i64 m) := Go.Proofs.cell_of_shapedOpen_int (zero := #[.int .i64 0]) (t := 3) h (of_decide_eq_true (by kernel_rfl)) (by kernel_rfl) rfl (by kernel_rfl) (by kernel_rfl) Try.underlying3
  exact ⟨m, cell_old hw hm⟩
theorem str_of (s : ByteArray) : Value.string s = str s.data.toList := by
  obtain ⟨d⟩ := s
  simp
end Go.Proofs.Ytcahpllliflloaa
