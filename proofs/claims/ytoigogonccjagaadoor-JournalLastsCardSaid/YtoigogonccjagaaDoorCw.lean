/-
  Bytes of a text that is no constant. Nothing of a program stands here.
-/
import Derived.Test.YtoigogonccjagaaDoorCv
import Derived.Lib.ConvBytes
set_option linter.unusedVariables false
set_option linter.unusedSimpArgs false
namespace Go.Sl
open Go
section
variable {P : Program} {r : Option Nat} {fr : Fr} {d : Option Tmp} {ty : TypeId} {pos : String} {aft : Array Edge} {g : Option (Nat × Bool)} {v : Value} {x : Operand} {t e : TypeId} {w : World} {l : List Assn}
theorem Sat.marked {b : Nat} {cs : List Value} (hs : Sat (obj b (.cells cs.toArray e) :: l) w) : Sat (blk b cs e :: l) (w.freeze ⟨b, cs.length, none⟩ 1) := by
  have hb := hs.obj_heap
  have hlt := (Array.getElem?_eq_some_iff.1 hb).1
  have he := (Array.getElem?_eq_some_iff.1 hb).2
  have hheap : (w.freeze ⟨b, cs.length, none⟩ 1).heap = w.heap.setIfInBounds b (.cells cs.toArray e (cs.length, cs.length + 1)) := by
    apply Array.ext_getElem?
    intro j
    show (w.heap.modify b _)[j]? = _
    by_cases hj : b = j
    · subst hj
      rw [Array.getElem?_eq_getElem (by rw [Array.size_modify]; exact hlt), Array.getElem_modify_self, he, Array.getElem?_setIfInBounds_self_of_lt hlt]
      rfl
    · rw [Array.getElem?_modify, if_neg hj, Array.getElem?_setIfInBounds_ne hj]
  refine hs.put_at (b := b) (fun _ k hk => by rw [show k b = _ from hk]; rfl) hlt hheap rfl fun _ k hk => ⟨_, hk, ?_⟩
  intro i hi h
  have h2 : cs.length ≤ i := h.1
  omega
theorem does_ofStr {src : TypeId} {sd : TypeDesc} [h0 : TyU P src sd] [hT : TyU P t (.slice e)] [hE : TyU P e (.int .u8)] {s : List UInt8} (hs : Sat l w) (hx : ev fr x = some (str s)) :
    Does P r ⟨d, .convert src t x, ty, pos, aft, g⟩ fr w (fun v w' => Sat (sl v e 1 s.length (bytesV s) :: l) w') := by
  have hr := Lib.run_convert_string_bytes (P := P) w src t e ⟨s.toArray⟩ h0.h hT.h hE.h
  refine does_value fun m ds a hf => ⟨_, Lib.bytesWorld w e ⟨s.toArray⟩, by simp only [execOp, hf.ev hx]; rw [show str s = .string ⟨s.toArray⟩ from rfl, Sem.run_bind, hr]; rfl, ?_⟩
  have hsz : (⟨s.toArray⟩ : ByteArray).size = s.length := by simp [ByteArray.size]
  have hc : (Lib.bytesCells w e ⟨s.toArray⟩) = (bytesV s ++ List.replicate (grownCap w s.length 0 e - s.length) (Value.int .u8 0)).toArray := by
    unfold Lib.bytesCells
    rw [hsz]
    simp [bytesV]
  have ha := hs.drew.allocObj (.cells (bytesV s ++ List.replicate (grownCap w s.length 0 e - s.length) (Value.int .u8 0)).toArray e)
  have hm := ha.marked
  have hw : Lib.bytesWorld w e ⟨s.toArray⟩ = (w.drew.alloc (.cells (bytesV s ++ List.replicate (grownCap w s.length 0 e - s.length) (Value.int .u8 0)).toArray e)).freeze ⟨w.drew.heap.size, (bytesV s ++ List.replicate (grownCap w s.length 0 e - s.length) (Value.int .u8 0)).length, none⟩ 1 := by
    unfold Lib.bytesWorld
    rw [hc]; simp
  rw [hw, hsz]
  have hge := grownCap_ge w s.length 0 e
  exact hm.sl_mk hge (by simp) (by simp; omega)
end
end Go.Sl
