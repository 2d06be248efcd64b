/-
  Texts: ranges over them; what a contract of the library says. Nothing of a program stands here.
-/
import Derived.Test.YtcahpllliflloaaNu
import Derived.Below
import Derived.Lib.ValidLaws
set_option linter.unusedVariables false
set_option linter.unusedSimpArgs false
namespace Go.Sl
open Go Go.Lib
theorem Sat.below {l : List Assn} {w w' : World} (h : Sat l w) (hb : RowKit.Below w.heap.size w w') : Sat l w' :=
  h.ext (fun i o e => by rw [hb.block i (Array.getElem?_eq_some_iff.1 e).1]; exact e) (by simp [envOf, hb.os, hb.output])
theorem Ret.of_below {P : Program} {f : FuncId} {args : List Value} {w : World} {F : List Assn} {v : Value} (h : Calls P f args.toArray w fun e w' => e = .returned v ∧ RowKit.Below w.heap.size w w') (hs : Sat F w) :
    Ret P f args w fun u w' => u = v ∧ Sat F w' :=
  Calls.mono h fun e w' ⟨he, hb⟩ => ⟨v, he, rfl, hs.below hb⟩
theorem decode_list (s : List UInt8) (pos : Nat) : Utf8.decode ⟨s.toArray⟩ pos = decodeL (s.drop pos) := by
  have := decodeL_drop ⟨s.toArray⟩ pos
  simpa using this.symm
section
variable {P : Program} {r : Option Nat} {fr : Fr} {d : Option Tmp} {ty : TypeId} {pos : String} {aft : Array Edge} {g : Option (Nat × Bool)} {x : Operand} {t : TypeId} {w : World} {l : List Assn} {s : List UInt8} {b k : Nat}
theorem does_range [hT : TyU P t .string] (hs : Sat l w) (hx : ev fr x = some (str s)) : Does P r ⟨d, .range t x, ty, pos, aft, g⟩ fr w (fun v w' => ∃ b, v = .pointer (some ⟨b, 0, none⟩) ∧ Sat (obj b (.stringIter ⟨s.toArray⟩ 0) :: l) w') := by
  refine does_value fun n ds a hf => ⟨_, w.alloc (.stringIter ⟨s.toArray⟩ 0), ?_, w.heap.size, rfl, hs.allocObj _⟩
  simp only [execOp, hf.ev hx, Instr.range]
  simp [TyU.run (P := P) (t := t) w, newObj]
  rfl
theorem run_getObj {z : ByteArray} {q : Nat} (h : w.heap[b]? = some (.stringIter z q)) : (getObj b).run P w = .ok (.stringIter z q) w := by
  simp [getObj, Sem.run, h]
theorem does_next (hs : Sat (obj b (.stringIter ⟨s.toArray⟩ k) :: l) w) (hx : ev fr x = some (.pointer (some ⟨b, 0, none⟩))) (hk : k < s.length) :
    Does P r ⟨d, .next x true, ty, pos, aft, g⟩ fr w (fun v w' => v = .tuple #[.bool true, .int .i64 (k : Int), .int .i32 ((decodeL (s.drop k)).1 : Int)] ∧ Sat (obj b (.stringIter ⟨s.toArray⟩ (k + (decodeL (s.drop k)).2)) :: l) w') := by
  refine does_value fun n ds a hf => ⟨_, _, ?_, rfl, hs.putObj⟩
  have hh := hs.obj_heap
  obtain ⟨hlt, hle⟩ := Array.getElem?_eq_some_iff.1 hh
  have hk' : k < (ByteArray.mk s.toArray).size := by simpa [ByteArray.size] using hk
  simp only [execOp, hf.ev hx, Instr.next]
  have hset : ∀ o', (setObj b o').run P w = .ok () { w with heap := w.heap.setIfInBounds b o' } := fun o' => by simp [setObj, Sem.run, hh]
  simp [run_getObj (P := P) hh, hk', decode_list, hset, goInt]
theorem does_nextEnd (hs : Sat (obj b (.stringIter ⟨s.toArray⟩ k) :: l) w) (hx : ev fr x = some (.pointer (some ⟨b, 0, none⟩))) (hk : s.length ≤ k) :
    Does P r ⟨d, .next x true, ty, pos, aft, g⟩ fr w (fun v w' => v = .tuple #[.bool false] ∧ w' = w) := by
  refine does_value fun n ds a hf => ⟨_, _, ?_, rfl, rfl⟩
  have hh := hs.obj_heap
  have hk' : ¬ k < (ByteArray.mk s.toArray).size := by simpa [ByteArray.size] using hk
  simp only [execOp, hf.ev hx, Instr.next]
  simp [run_getObj (P := P) hh, hk']
end
theorem byteAt_drop {s t : List UInt8} {k : Nat} {b : UInt8} (h : s.drop k = b :: t) : byteAt s k = b.toNat ∧ k < s.length := by
  have hk : k < s.length := by
    rcases Nat.lt_or_ge k s.length with h' | h'
    · exact h'
    · rw [List.drop_of_length_le h'] at h; cases h
  rw [List.drop_eq_getElem_cons hk] at h
  injection h with h1 h2
  exact ⟨by simp [byteAt, hk, h1], hk⟩
end Go.Sl
