/-
  Bytes of a constant text: a row put together, and turned into its own type (the run-time marks the place behind it). Nothing of a program stands here.
-/
import Derived.Test.YtoigogonccjagaaDoorIf
set_option linter.unusedVariables false
set_option linter.unusedSimpArgs false
namespace Go.Sl
open Go
section
variable {P : Program} {r : Option Nat} {fr : Fr} {d : Option Tmp} {ty : TypeId} {pos : String} {aft : Array Edge} {g : Option (Nat × Bool)} {v : Value} {x : Operand} {t e : TypeId} {w : World} {l : List Assn}
/-- A new row, of which no mark was made. -/
theorem does_buildObj {bytes : Nat} {zero : List Value} [hT : TyU P t (.slice e)] [hI : TyI P e false 1 bytes zero] {n : Nat} {ps : Array (Nat × Operand)} {vs : List Value} (hs : Sat l w) (hv : evs fr (ps.toList.map (·.2)) = some vs)
    (hp : ps.toList.map (·.1) = upto 0 vs.length) (hn : vs.length = n) (h1 : ∀ v ∈ vs, v.oneCell' = true) (hb : Nat.ble n 16777216 = true) :
    Does P r ⟨d, .buildSlice t n ps, ty, pos, aft, g⟩ fr w (fun v w' => ∃ b, v = .slice (some ⟨b, 0, none⟩) n n ∧ Sat (obj b (.cells vs.toArray e) :: l) w') := by
  obtain ⟨i, hi, h2, h3, h4, h5, h6, h7⟩ := hI.info
  have hz : (rep n zero).length = vs.length := by rw [rep_length, h6, hn, Nat.mul_one]
  refine does_value fun m ds a hf => ⟨_, w.alloc (.cells vs.toArray e), ?_, w.heap.size, rfl, hs.allocObj _⟩
  have e1 : (ps.map fun (i, x) => (i, a.eval x)).toList = (upto 0 vs.length).zip vs := by simpa using evps_map hf (evps_ones _ vs 0 hp hv)
  have hfill := fill_lay (fun i => some (i * 1, 1)) ((upto 0 vs.length).zip vs) (ones 0 vs) (rep n zero) vs (zip_ones vs 0 h1) (layOk_ones _ vs 0 (by rw [hz]; omega)) (lay_ones vs [] (rep n zero) hz)
  have hn' : ¬ (16777216 < n * 1) := by have : n ≤ 16777216 := by simpa using hb
                                        omega
  have hZ := zeros_eq n zero (by
    rcases Nat.eq_zero_or_pos zero.length with h0 | h0
    · left; simp [h0]
    · exact .inr h0)
  rw [h6] at hZ
  unfold madeCells at hZ
  simp only [execOp, Instr.buildSlice, Sem.run_bind, TyU.run (P := P) (t := t) w, Result.andThen_ok, TyI.run_size (P := P) (t := e) w, e1]
  rw [if_neg (by simpa using hn')]
  by_cases h0 : n * 1 = 0
  · have hr : rep n zero = [] := List.eq_nil_of_length_eq_zero (by rw [rep_length, h6]; exact h0)
    rw [hr] at hfill
    simp only [h0, if_true]
    simp only [Sem.run_pure, Sem.run_bind, Result.andThen_ok, Array.range_zero', Array.map_empty, hfill, newRow, newObj]
    rfl
  · simp only [h0, if_false]
    simp only [Sem.run_pure, Sem.run_bind, Result.andThen_ok, TyI.run_zero (P := P) (t := e) w, TyI.zero_cells P e, hZ, hfill, newRow, newObj]
    rfl
theorem does_convSame [hT : TyU P t (.slice e)] [hE : TyU P e (.int .u8)] {b n c : Nat} {cs : List Value} (hs : Sat (obj b (.cells cs.toArray e) :: l) w) (hx : ev fr x = some (.slice (some ⟨b, 0, none⟩) n c)) :
    Does P r ⟨d, .convert t t x, ty, pos, aft, g⟩ fr w (fun v w' => v = .slice (some ⟨b, 0, none⟩) n c ∧ Sat (blk b cs e :: l) w') := by
  have hb := hs.obj_heap
  have hsh : w.shape? b = some (e, cs.length) := by simp [World.shape?, hb]
  refine does_value fun m ds a hf => ⟨_, w.freeze ⟨b, cs.length, none⟩ 1, ?_, rfl, ?_⟩
  · simp only [execOp, hf.ev hx, convert]
    simp [TyU.run (P := P) (t := t) w, TyU.run (P := P) (t := e) w, markStringish, hsh]
  · have hlt := (Array.getElem?_eq_some_iff.1 hb).1
    have he := (Array.getElem?_eq_some_iff.1 hb).2
    have hheap : (w.freeze ⟨b, cs.length, none⟩ 1).heap = w.heap.setIfInBounds b (.cells cs.toArray e (cs.length, cs.length + 1)) := by
      apply Array.ext_getElem?
      intro j
      show (w.heap.modify b _)[j]? = _
      by_cases hj : b = j
      · subst hj
        rw [Array.getElem?_eq_getElem (by rw [Array.size_modify]; exact hlt), Array.getElem_modify_self, he, Array.getElem?_setIfInBounds_self_of_lt hlt]
        rfl
      · rw [Array.getElem?_modify, if_neg hj, Array.getElem?_setIfInBounds_ne hj]
    refine hs.put_at (b := b) (fun _ k hk => by rw [show k b = _ from hk]; rfl) hlt hheap rfl fun _ k hk => ⟨_, hk, ?_⟩
    intro i hi h
    have := h.1
    show False
    have h2 : cs.length ≤ i := h.1
    omega
end
end Go.Sl
