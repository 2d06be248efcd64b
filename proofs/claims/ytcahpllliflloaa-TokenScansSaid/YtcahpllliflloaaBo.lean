/-
  A slice of bools, and one of bytes, as a row hands them in: a list that is read. Nothing of a program stands here.
-/
import Derived.Test.YtcahpllliflloaaAg
import Derived.Deep.Grids
set_option linter.unusedVariables false
set_option linter.unusedSimpArgs false
namespace Go.Sl
open Go Go.ChangeShapes Go.WideShapes
section
variable {H : Type} {enc : TypeId × Value → H} {P : Program} {W : World}
theorem rd_old {a : Addr} {xs : List Value} (h : ∀ i, i < xs.length → W.cell? (a.add i) = xs[i]?) (h0 : 0 < xs.length) : ∃ b o, (some a : Option Addr) = some ⟨b, o, none⟩ ∧ Rd [old W] b o xs := by
  obtain ⟨b, o, s⟩ := a
  have e0 := h 0 h0
  rw [List.getElem?_eq_getElem h0] at e0
  have hs : s = none := by
    cases s with
    | none => rfl
    | some s => simp [Addr.add, World.cell?] at e0; split at e0 <;> simp at e0
  subst hs
  refine ⟨b, o, rfl, fun w hw j u hu => ?_⟩
  have hj : j < xs.length := (List.getElem?_eq_some_iff.1 hu).1
  have e1 := h j hj
  rw [Addr.add_lit, hu] at e1
  have hlt : b < W.heap.size := by
    unfold World.cell? at e1
    split at e1
    · rename_i h2; exact (Array.getElem?_eq_some_iff.1 h2).1
    · cases e1
  have := hw.old_same b hlt
  unfold World.cell? at e1 ⊢
  simp only [this]
  exact e1
theorem open_bools_rd {t e : TypeId} {v : Value} {d : DataW H} {p : List MemPlace} (ht : P.underlying t = some (.slice e)) (he : P.underlying e = some .bool) (hc : P.cellsOf e = 1) (hv : ∃ q n c, v = .slice q n c)
    (h : DataW.Trod enc P W 0 (fun _ => true) true t v d p) : ∃ (q : Option Addr) (c : Nat) (l : List Bool), v = .slice q l.length c ∧ l.length ≤ c ∧ c ≤ maxLen ∧ RdS [old W] 1 v l.length (l.map Value.bool) := by
  obtain ⟨q, n, c, rfl⟩ := hv
  obtain ⟨fuel, h⟩ := h
  rcases Go.Deep.open_bools ht he hc h with ⟨hcs, _⟩ | ⟨a, len, cap, B, hcs, _, hl, hm, _, hcell⟩
  · have e : Value.slice q n c = .slice none 0 0 := by simpa [Value.cells] using hcs
    rw [e]
    exact ⟨none, 0, [], rfl, Nat.le_refl _, Nat.zero_le _, none, 0, rfl, Nat.le_refl _, rfl, fun h => by simp at h⟩
  · have e : Value.slice q n c = .slice (some a) len cap := by simpa [Value.cells] using hcs
    rw [e]
    have hlen : ((List.range len).map B).length = len := by simp
    refine ⟨some a, cap, (List.range len).map B, by rw [hlen], by rw [hlen]; exact hl, hm, some a, cap, by rw [hlen], by rw [hlen]; exact hl, by simp, fun h0 => rd_old (fun i hi => ?_) (by simpa using h0)⟩
    have hi' : i < len := by simpa using hi
    rw [hcell i (by omega)]
    simp [hi']
end
end Go.Sl
