/-
  More operations that only reckon: comparisons with nil, conversions, cuts, lengths, parts | Sorted values, each once: their keys are the tree's | Chains and cells as parts
-/
import Derived.Test.YtkccjgllanpebaaGreatDoorYae
import Derived.Test.YtkccjgllanpebaaGreatDoorYad
set_option linter.unusedVariables false
set_option linter.unusedSimpArgs false
namespace Go.Sl
open Go
section
variable {P : Program} {fr : Fr} {d : Option Tmp} {ty : TypeId} {pos : String} {aft : Array Edge} {g : Option (Nat × Bool)} {v u z vx vy : Value} {x y c i : Operand} {t s e : TypeId}

theorem run_equal_ptr_nil {e : TypeId} [h : TyU P t (.pointer e)] (p : Option Addr) (w : World) : (Op.equal t (.pointer p) (.pointer none)).run P w = .ok p.isNone w := by
  unfold Op.equal Op.maxDepth Op.equalIn
  rw [Sem.run_bind, TyU.run (t := t) w]
  cases p <;> simp
theorem br_ptr_nil {e : TypeId} [h : TyU P t (.pointer e)] {p : Option Addr} : Bin P .eql t (.pointer p) (.pointer none) (.bool p.isNone) := fun _ _ w => by
  simp [eqGuard, binOp, run_equal_ptr_nil (P := P) (t := t) p w]
theorem br_ptr_nnil {e : TypeId} [h : TyU P t (.pointer e)] {p : Option Addr} : Bin P .neq t (.pointer p) (.pointer none) (.bool (!p.isNone)) := fun _ _ w => by
  simp [eqGuard, binOp, run_equal_ptr_nil (P := P) (t := t) p w]
theorem br_some_nil {e : TypeId} [h : TyU P t (.pointer e)] {a : Addr} : Bin P .eql t (.pointer (some a)) (.pointer none) (.bool false) := br_ptr_nil
theorem br_none_nil {e : TypeId} [h : TyU P t (.pointer e)] : Bin P .eql t (.pointer none) (.pointer none) (.bool true) := br_ptr_nil
theorem br_some_nnil {e : TypeId} [h : TyU P t (.pointer e)] {a : Addr} : Bin P .neq t (.pointer (some a)) (.pointer none) (.bool true) := br_ptr_nnil
theorem br_none_nnil {e : TypeId} [h : TyU P t (.pointer e)] : Bin P .neq t (.pointer none) (.pointer none) (.bool false) := br_ptr_nnil
theorem run_equal_slice_nil {e : TypeId} [h : TyU P t (.slice e)] (p : Option Addr) (n c k m : Nat) (w : World) : (Op.equal t (.slice p n c) (.slice none k m)).run P w = .ok p.isNone w := by
  unfold Op.equal Op.maxDepth Op.equalIn
  rw [Sem.run_bind, TyU.run (t := t) w]
  cases p <;> simp
theorem br_slice_nil {e : TypeId} [h : TyU P t (.slice e)] {p : Option Addr} {n c k m : Nat} : Bin P .eql t (.slice p n c) (.slice none k m) (.bool p.isNone) := fun _ _ w => by
  simp [eqGuard, binOp, run_equal_slice_nil (P := P) (t := t) p n c k m w]
theorem run_equal_bool [h : TyU P t .bool] (p q : Bool) (w : World) : (Op.equal t (.bool p) (.bool q)).run P w = .ok (p == q) w := by
  unfold Op.equal Op.maxDepth Op.equalIn
  rw [Sem.run_bind, TyU.run (t := t) w]
  simp
theorem br_bool_ne [h : TyU P t .bool] {p q : Bool} : Bin P .neq t (.bool p) (.bool q) (.bool (decide (p ≠ q))) := fun _ _ w => by
  simp [eqGuard, binOp, run_equal_bool (P := P) (t := t) p q w]; cases p <;> cases q <;> rfl

theorem po_not {b : Bool} (hx : ev fr x = some (.bool b)) : Pure P ⟨d, .unOp .not t x, ty, pos, aft, g⟩ fr (.bool (!b)) := fun n ds a hf w => by simp [execOp, hf.ev hx, Op.unary]
theorem po_neg {k : IntKind} {m r : Int} (hx : ev fr x = some (.int k m)) (h : k.wrap (0 - m) = r) : Pure P ⟨d, .unOp .neg t x, ty, pos, aft, g⟩ fr (.int k r) := fun n ds a hf w => by subst h; simp [execOp, hf.ev hx, Op.unary, Op.intArith]

theorem po_conv_int {k k' : IntKind} {m r : Int} {src dst : TypeId} {sd : TypeDesc} [h1 : TyU P src sd] [h2 : TyU P dst (.int k)] (hx : ev fr x = some (.int k' m)) (h : k.wrap m = r) : Pure P ⟨d, .convert src dst x, ty, pos, aft, g⟩ fr (.int k r) := fun n ds a hf w => by
  subst h
  simp only [execOp, hf.ev hx, convert]
  simp [TyU.run (P := P) (t := src) w, TyU.run (P := P) (t := dst) w, Conv.intToInt]
theorem po_conv_str {src dst : TypeId} {sd : TypeDesc} {l : List UInt8} [h1 : TyU P src sd] [h2 : TyU P dst .string] (hx : ev fr x = some (str l)) : Pure P ⟨d, .convert src dst x, ty, pos, aft, g⟩ fr (str l) := fun n ds a hf w => by
  simp only [execOp, hf.ev hx, convert]
  simp [TyU.run (P := P) (t := src) w, TyU.run (P := P) (t := dst) w]

theorem po_len_str {l : List UInt8} [h1 : TyU P t .string] (hx : ev fr x = some (str l)) : Pure P ⟨d, .call { callee := .builtin .len, args := #[x], argTypes := #[t] }, ty, pos, aft, g⟩ fr (.int .i64 (l.length : Int)) := fun n ds a hf w => by
  have hs : (ByteArray.mk l.toArray).size = l.length := by simp [ByteArray.size]
  simp [execOp, resolve, invoke, builtin, Builtin.len_, hf.ev hx, TyU.run (P := P) (t := t) w, goInt, hs]
theorem po_len_slice {p : Option Addr} {k c : Nat} [h1 : TyU P t (.slice e)] (hx : ev fr x = some (.slice p k c)) : Pure P ⟨d, .call { callee := .builtin .len, args := #[x], argTypes := #[t] }, ty, pos, aft, g⟩ fr (.int .i64 (k : Int)) := fun n ds a hf w => by
  simp [execOp, resolve, invoke, builtin, Builtin.len_, hf.ev hx, TyU.run (P := P) (t := t) w, goInt]
theorem po_len_array {k : Nat} [h1 : TyU P t (.array k e)] (hx : ev fr x = some v) : Pure P ⟨d, .call { callee := .builtin .len, args := #[x], argTypes := #[t] }, ty, pos, aft, g⟩ fr (.int .i64 (k : Int)) := fun n ds a hf w => by
  simp [execOp, resolve, invoke, builtin, Builtin.len_, hf.ev hx, TyU.run (P := P) (t := t) w, goInt]
theorem po_cap_slice {p : Option Addr} {k c : Nat} [h1 : TyU P t (.slice e)] (hx : ev fr x = some (.slice p k c)) : Pure P ⟨d, .call { callee := .builtin .cap, args := #[x], argTypes := #[t] }, ty, pos, aft, g⟩ fr (.int .i64 (c : Int)) := fun n ds a hf w => by
  simp [execOp, resolve, invoke, builtin, Builtin.cap_, hf.ev hx, TyU.run (P := P) (t := t) w, goInt]
theorem po_min {k k' : IntKind} {m n : Int} (hx : ev fr x = some (.int k m)) (hy : ev fr y = some (.int k' n)) {ts : Array TypeId} : Pure P ⟨d, .call { callee := .builtin .min, args := #[x, y], argTypes := ts }, ty, pos, aft, g⟩ fr (.int k (min m n)) := fun n' ds a hf w => by
  simp [execOp, resolve, invoke, builtin, Builtin.min_, Builtin.min2, hf.ev hx, hf.ev hy]
  split <;> omega
theorem po_max {k k' : IntKind} {m n : Int} (hx : ev fr x = some (.int k m)) (hy : ev fr y = some (.int k' n)) {ts : Array TypeId} : Pure P ⟨d, .call { callee := .builtin .max, args := #[x, y], argTypes := ts }, ty, pos, aft, g⟩ fr (.int k (max m n)) := fun n' ds a hf w => by
  simp [execOp, resolve, invoke, builtin, Builtin.max_, Builtin.max2, hf.ev hx, hf.ev hy]
  split <;> omega

theorem po_index_str {l : List UInt8} {j : Nat} [h1 : TyU P t .string] {k : IntKind} (hx : ev fr x = some (str l)) (hi : ev fr i = some (.int k (j : Int))) (h : j < l.length) : Pure P ⟨d, .index t x i, ty, pos, aft, g⟩ fr (.int .u8 (byteAt l j)) := fun n ds a hf w => by
  simp only [execOp, hf.ev hx, hf.ev hi, Instr.index, asIntOf]
  have e : (ByteArray.mk l.toArray)[j]? = some (l[j]) := by
    rw [getElem?_pos _ _ (by simpa [ByteArray.size] using h)]
    rfl
  simp [TyU.run (P := P) (t := t) w, e, byteAt, h]

theorem run_bound {k : IntKind} {j y : Nat} (h : j ≤ y) (code : BoundsCode) (w : World) : (Instr.sliceBound (.int k (j : Int)) y code).run P w = .ok j w := by
  simp [Instr.sliceBound, asIntOf, h]
theorem po_slice_str {l : List UInt8} {k k' : IntKind} {a b : Nat} {lo hi : Operand} [h1 : TyU P t .string] (hx : ev fr x = some (str l)) (hl : ev fr lo = some (.int k (a : Int))) (hh : ev fr hi = some (.int k' (b : Int))) (h1 : a ≤ b) (h2 : b ≤ l.length) :
    Pure P ⟨d, .slice t x (some lo) (some hi) none, ty, pos, aft, g⟩ fr (str ((l.take b).drop a)) := fun n ds ac hf w => by
  have hs : (ByteArray.mk l.toArray).size = l.length := by simp [ByteArray.size]
  simp only [execOp, hf.ev hx, hf.ev hl, hf.ev hh, Instr.sliceAt, Option.map_some, Option.map_none, Instr.slice, Instr.sliceBounds, hs]
  simp [TyU.run (P := P) (t := t) w, hs, run_bound (P := P) h2, run_bound (P := P) h1]
  apply ByteArray.ext
  simp [ByteArray.extract, ByteArray.copySlice, List.extract, List.drop_take]
theorem po_slice_str_lo {l : List UInt8} {k : IntKind} {a : Nat} {lo : Operand} [h1 : TyU P t .string] (hx : ev fr x = some (str l)) (hl : ev fr lo = some (.int k (a : Int))) (h2 : a ≤ l.length) :
    Pure P ⟨d, .slice t x (some lo) none none, ty, pos, aft, g⟩ fr (str (l.drop a)) := fun n ds ac hf w => by
  have hs : (ByteArray.mk l.toArray).size = l.length := by simp [ByteArray.size]
  simp only [execOp, hf.ev hx, hf.ev hl, Instr.sliceAt, Option.map_some, Option.map_none, Instr.slice, Instr.sliceBounds, hs]
  simp [TyU.run (P := P) (t := t) w, hs, run_bound (P := P) h2]
  apply ByteArray.ext
  simp [ByteArray.extract, ByteArray.copySlice, List.extract, List.drop_take]
  rw [List.take_of_length_le (by simp)]
theorem po_slice_str_hi {l : List UInt8} {k : IntKind} {b : Nat} {hi : Operand} [h1 : TyU P t .string] (hx : ev fr x = some (str l)) (hh : ev fr hi = some (.int k (b : Int))) (h2 : b ≤ l.length) :
    Pure P ⟨d, .slice t x none (some hi) none, ty, pos, aft, g⟩ fr (str (l.take b)) := fun n ds ac hf w => by
  have hs : (ByteArray.mk l.toArray).size = l.length := by simp [ByteArray.size]
  simp only [execOp, hf.ev hx, hf.ev hh, Instr.sliceAt, Option.map_some, Option.map_none, Instr.slice, Instr.sliceBounds, hs]
  simp [TyU.run (P := P) (t := t) w, hs, run_bound (P := P) h2]
  apply ByteArray.ext
  simp [ByteArray.extract, ByteArray.copySlice, List.extract]
def cutAt (a : Option Addr) (l m size : Nat) : Option Addr := if m = l then a else a.map (·.add (l * size))
section
variable {p : Option Addr} {n c : Nat} {agg : Bool} {size bytes : Nat} {zero : List Value} {k k' k'' : IntKind} {a b m : Nat} {lo hi mx : Operand}
theorem po_slice [h1 : TyU P t (.slice e)] [h2 : TyI P e agg size bytes zero] (hx : ev fr x = some (.slice p n c)) (hl : ev fr lo = some (.int k (a : Int))) (hh : ev fr hi = some (.int k' (b : Int))) (ha : a ≤ b) (hb : b ≤ c) :
    Pure P ⟨d, .slice t x (some lo) (some hi) none, ty, pos, aft, g⟩ fr (.slice (cutAt p a c size) (b - a) (c - a)) := fun n ds ac hf w => by
  simp only [execOp, hf.ev hx, hf.ev hl, hf.ev hh, Instr.sliceAt, Option.map_some, Option.map_none, Instr.slice, Instr.sliceBounds]
  simp [TyU.run (P := P) (t := t) w, run_bound (P := P) hb, run_bound (P := P) ha, TyI.run_size (P := P) (t := e) w, cutAt]
theorem po_slice_lo [h1 : TyU P t (.slice e)] [h2 : TyI P e agg size bytes zero] (hx : ev fr x = some (.slice p n c)) (hl : ev fr lo = some (.int k (a : Int))) (ha : a ≤ n) :
    Pure P ⟨d, .slice t x (some lo) none none, ty, pos, aft, g⟩ fr (.slice (cutAt p a c size) (n - a) (c - a)) := fun n ds ac hf w => by
  simp only [execOp, hf.ev hx, hf.ev hl, Instr.sliceAt, Option.map_some, Option.map_none, Instr.slice, Instr.sliceBounds]
  simp [TyU.run (P := P) (t := t) w, run_bound (P := P) ha, TyI.run_size (P := P) (t := e) w, cutAt]
theorem po_slice_hi [h1 : TyU P t (.slice e)] [h2 : TyI P e agg size bytes zero] (hx : ev fr x = some (.slice p n c)) (hh : ev fr hi = some (.int k (b : Int))) (hb : b ≤ c) :
    Pure P ⟨d, .slice t x none (some hi) none, ty, pos, aft, g⟩ fr (.slice p b c) := fun n ds ac hf w => by
  simp only [execOp, hf.ev hx, hf.ev hh, Instr.sliceAt, Option.map_some, Option.map_none, Instr.slice, Instr.sliceBounds]
  simp [TyU.run (P := P) (t := t) w, run_bound (P := P) hb, TyI.run_size (P := P) (t := e) w]
  cases p with
  | none => simp
  | some q => simp [Addr.add]
theorem po_slice3_hi [h1 : TyU P t (.slice e)] [h2 : TyI P e agg size bytes zero] (hx : ev fr x = some (.slice p n c)) (hh : ev fr hi = some (.int k' (b : Int))) (hm : ev fr mx = some (.int k'' (m : Int))) (hb : b ≤ m) (hc : m ≤ c) :
    Pure P ⟨d, .slice t x none (some hi) (some mx), ty, pos, aft, g⟩ fr (.slice p b m) := fun n ds ac hf w => by
  simp only [execOp, hf.ev hx, hf.ev hh, hf.ev hm, Instr.sliceAt, Option.map_some, Option.map_none, Instr.slice, Instr.sliceBounds]
  simp [TyU.run (P := P) (t := t) w, run_bound (P := P) hb, run_bound (P := P) hc, TyI.run_size (P := P) (t := e) w]
  cases p with
  | none => simp
  | some q => simp [Addr.add]
theorem po_slice_arr_hi {q o : Nat} [h1 : TyU P t (.array n e)] [h2 : TyI P e agg size bytes zero] (hx : ev fr x = some (.pointer (some ⟨q, o, none⟩))) (hh : ev fr hi = some (.int k (b : Int))) (hb : b ≤ n) :
    Pure P ⟨d, .slice t x none (some hi) none, ty, pos, aft, g⟩ fr (.slice (some ⟨q, o, none⟩) b n) := fun n ds ac hf w => by
  simp only [execOp, hf.ev hx, hf.ev hh, Instr.sliceAt, Option.map_some, Option.map_none, Instr.sliceBounds]
  simp [TyU.run (P := P) (t := t) w, Instr.sureAddr, run_bound (P := P) hb, TyI.run_size (P := P) (t := e) w, Addr.add]
end
theorem po_makeFunc {fn : Fn} {first capt : Array Operand} {vf vc : List Value} (h1 : evs fr first.toList = some vf) (h2 : evs fr capt.toList = some vc) : Pure P ⟨d, .makeFunc fn first capt, ty, pos, aft, g⟩ fr (.func fn vf.toArray vc.toArray) := fun n ds a hf w => by
  have e1 : first.map a.eval = vf.toArray := by apply Array.ext'; simpa using hf.evs h1
  have e2 : capt.map a.eval = vc.toArray := by apply Array.ext'; simpa using hf.evs h2
  simp [execOp, Instr.makeFunc, e1, e2]
end
end Go.Sl

namespace Go.Kv
open Go.Tr
noncomputable instance : DecidableEq V := fun _ _ => Classical.propDecidable _
noncomputable def nw : Option V → List V → List V
  | _, [] => []
  | p, b :: l => if p = some b then nw (some b) l else b :: nw (some b) l
theorem nw_snoc (b : V) : ∀ (l : List V) (p : Option V), nw p (l ++ [b]) = nw p l ++ (if (match l.getLast? with | some a => some a | none => p) = some b then [] else [b])
  | [], p => by
    show nw p [b] = [] ++ if p = some b then [] else [b]
    unfold nw
    split
    · rfl
    · rfl
  | a :: l, p => by
    have ih := nw_snoc b l (some a)
    have e : (match (a :: l).getLast? with | some a => some a | none => p) = (match l.getLast? with | some a => some a | none => some a) := by
      cases l with
      | nil => rfl
      | cons c l =>
        rw [List.getLast?_cons_cons]
        cases h : (c :: l).getLast? with
        | none => simp at h
        | some x => rfl
    rw [e]
    show nw p (a :: (l ++ [b])) = nw p (a :: l) ++ _
    unfold nw
    split
    · exact ih
    · rw [ih, List.cons_append]
theorem nw_mem {v : V} : ∀ {l : List V} {p : Option V}, v ∈ nw p l → v ∈ l
  | [], _, h => by cases h
  | b :: l, p, h => by
    unfold nw at h
    split at h
    · exact List.mem_cons_of_mem _ (nw_mem h)
    · rcases List.mem_cons.1 h with rfl | h
      · exact List.mem_cons_self
      · exact List.mem_cons_of_mem _ (nw_mem h)
theorem mem_nw {v : V} : ∀ {l : List V} {p : Option V}, v ∈ l → v ∈ nw p l ∨ p = some v
  | b :: l, p, h => by
    unfold nw
    by_cases hp : p = some b
    · rw [if_pos hp]
      rcases List.mem_cons.1 h with rfl | h
      · exact .inr hp
      · rcases mem_nw (p := some b) h with h | h
        · exact .inl h
        · exact .inr (by rw [hp, h])
    · rw [if_neg hp]
      rcases List.mem_cons.1 h with rfl | h
      · exact .inl List.mem_cons_self
      · rcases mem_nw (p := some b) h with h | h
        · exact .inl (List.mem_cons_of_mem _ h)
        · cases h; exact .inl List.mem_cons_self
theorem le_put {a b : V} (ha : okV a) (hb : okV b) (h : cmpV a b ≤ 0) (hn : a ≠ b) : ltB (putV a) (putV b) = true := by
  rcases Int.lt_or_eq_of_le h with h | h
  · exact cmp_lt ha hb h
  · exact absurd ((put_dec a b ha hb).2 h) hn
theorem nw_sorted : ∀ {l : List V} {p : Option V}, (∀ v ∈ l, okV v) → l.Pairwise (fun a b => cmpV a b ≤ 0) → (∀ a, p = some a → okV a ∧ ∀ v ∈ l, cmpV a v ≤ 0) →
    ((nw p l).map putV).Pairwise (fun a b => ltB a b = true) ∧ ∀ a, p = some a → ∀ v ∈ nw p l, ltB (putV a) (putV v) = true
  | [], _, _, _, _ => ⟨List.Pairwise.nil, fun _ _ _ h => by cases h⟩
  | b :: l, p, ho, hs, hp => by
    obtain ⟨h1, h2⟩ := List.pairwise_cons.1 hs
    have hb := ho b List.mem_cons_self
    obtain ⟨i1, i2⟩ := nw_sorted (l := l) (p := some b) (fun v hv => ho v (List.mem_cons_of_mem _ hv)) h2 (fun a ha => by cases ha; exact ⟨hb, h1⟩)
    unfold nw
    by_cases hpb : p = some b
    · rw [if_pos hpb]
      exact ⟨i1, fun a ha v hv => by rw [hpb] at ha; cases ha; exact i2 b rfl v hv⟩
    · rw [if_neg hpb]
      refine ⟨?_, fun a ha v hv => ?_⟩
      · rw [List.map_cons, List.pairwise_cons]
        refine ⟨fun y hy => ?_, i1⟩
        obtain ⟨v, hv, rfl⟩ := List.mem_map.1 hy
        exact i2 b rfl v hv
      · obtain ⟨oa, la⟩ := hp a ha
        have hab : ltB (putV a) (putV b) = true := le_put oa hb (la b List.mem_cons_self) (fun e => hpb (by rw [ha, e]))
        rcases List.mem_cons.1 hv with rfl | hv
        · exact hab
        · exact ltB_trans hab (i2 b rfl v hv)
theorem sorted_eq : ∀ {l m : List Bs}, l.Pairwise (fun a b => ltB a b = true) → m.Pairwise (fun a b => ltB a b = true) → (∀ x, x ∈ l ↔ x ∈ m) → l = m
  | [], [], _, _, _ => rfl
  | [], b :: m, _, _, h => by have := (h b).2 List.mem_cons_self; cases this
  | a :: l, [], _, _, h => by have := (h a).1 List.mem_cons_self; cases this
  | a :: l, b :: m, h1, h2, h => by
    obtain ⟨l1, l2⟩ := List.pairwise_cons.1 h1
    obtain ⟨m1, m2⟩ := List.pairwise_cons.1 h2
    have hab : a = b := by
      rcases List.mem_cons.1 ((h a).1 List.mem_cons_self) with e | e
      · exact e
      · rcases List.mem_cons.1 ((h b).2 List.mem_cons_self) with f | f
        · exact f.symm
        · have g1 := m1 a e
          have g2 := l1 b f
          rw [ltB_asymm g1] at g2; cases g2
    subst hab
    rw [sorted_eq l2 m2 fun x => ?_]
    constructor
    · intro hx
      rcases List.mem_cons.1 ((h x).1 (List.mem_cons_of_mem _ hx)) with e | e
      · subst e
        have := l1 x hx
        rw [ltB_irrefl] at this; cases this
      · exact e
    · intro hx
      rcases List.mem_cons.1 ((h x).2 (List.mem_cons_of_mem _ hx)) with e | e
      · subst e
        have := m1 x hx
        rw [ltB_irrefl] at this; cases this
      · exact e
theorem keys_of {few sorted : List V} {l : List (Bs × Bs)} (ho : ∀ v ∈ few, okV v) (hp : ∀ v, v ∈ sorted ↔ v ∈ few) (hs : sorted.Pairwise (fun a b => cmpV a b ≤ 0))
    (hl : l.Pairwise fun a b => ltB a.1 b.1 = true) (h1 : ∀ v ∈ few, ∃ x, (putV v, x) ∈ l) (h2 : ∀ p ∈ l, ∃ v ∈ few, p.1 = putV v) : (nw none sorted).map putV = l.map (·.1) := by
  have hos : ∀ v ∈ sorted, okV v := fun v hv => ho v ((hp v).1 hv)
  refine sorted_eq (nw_sorted hos hs (fun a h => by cases h)).1 (List.pairwise_map.2 hl) fun x => ?_
  constructor
  · intro hx
    obtain ⟨v, hv, rfl⟩ := List.mem_map.1 hx
    obtain ⟨y, hy⟩ := h1 v ((hp v).1 (nw_mem hv))
    exact List.mem_map.2 ⟨_, hy, rfl⟩
  · intro hx
    obtain ⟨p, hp', rfl⟩ := List.mem_map.1 hx
    obtain ⟨v, hv, e⟩ := h2 p hp'
    refine List.mem_map.2 ⟨v, ?_, e.symm⟩
    rcases mem_nw (p := none) ((hp v).2 hv) with h | h
    · exact h
    · cases h
end Go.Kv

namespace Go.Pa
open Go.Tr
def chL : List Nat → Bs → List (Nat × Bs)
  | [], _ => []
  | [k], b => [(k, link 65535 b)]
  | k :: k' :: l, b => (k, link k' b) :: chL (k' :: l) (b.drop 254)
theorem chL_fst : ∀ (l : List Nat) (b : Bs), (chL l b).map (·.1) = l
  | [], _ => rfl
  | [k], b => rfl
  | k :: k' :: l, b => by
    show k :: (chL (k' :: l) (b.drop 254)).map (·.1) = _
    rw [chL_fst]
def pgs (l : List (Nat × Bs)) : List PA := l.map fun x => pg x.1 x.2
theorem Al.mid {A : PA} {l m : List PA} {h : Ph} : Al (l ++ A :: m) h ↔ Al (A :: (l ++ m)) h := by
  constructor
  · intro a
    have h1 : Al ((A :: m) ++ l) h := a.swap_app
    have h2 : Al (A :: (m ++ l)) h := h1
    exact h2.cons_imp fun k hk => hk.swap_app
  · intro a
    have h2 : Al (A :: (m ++ l)) h := a.cons_imp fun k hk => hk.swap_app
    have h1 : Al ((A :: m) ++ l) h := h2
    exact h1.swap_app
section
variable {E : En} {KK : List Nat} {s s' : St} {k : Nat} {b b0 : Bs} {F : List PA}
theorem PS.mid {A : PA} {l m : List PA} : PS E KK (l ++ A :: m) s ↔ PS E KK (A :: (l ++ m)) s := ⟨fun a => ⟨Al.mid.1 a.1, a.2⟩, fun a => ⟨Al.mid.2 a.1, a.2⟩⟩
theorem taken_ok : ∀ {n : Nat} {l0 : List Nat} {F : List PA} {s : St}, PS E KK F s → Ok (takenM E n l0) s fun l s' => ∃ l1, l = l0 ++ l1 ∧ l1.length = n ∧ PS E KK (pgs (l1.map fun k => (k, zeros)) ++ F) s'
  | 0, l0, F, s, a => Ok.pure ⟨[], by simp, rfl, a⟩
  | n + 1, l0, F, s, a => by
    intro l s' h
    unfold takenM at h
    cases hf : s.kinds.findIdx? (· == 0) with
    | none => rw [hf] at h; cases h.1
    | some i =>
      rw [hf] at h
      obtain ⟨hi, h0⟩ := find_first hf
      obtain ⟨l1, e, hl, h3⟩ := taken_ok (n := n) (rd_take hi h0 a) l s' h
      refine ⟨(E.frm + i) :: l1, by rw [e]; simp, by simp [hl], ?_⟩
      exact PS.mid.1 h3
theorem puts_ok : ∀ {l : List Nat} {b : Bs} {F : List PA} {s : St}, PS E KK (pgs (l.map fun k => (k, zeros)) ++ F) s → Ok (chainPuts E l b) s fun _ s' => PS E KK (pgs (chL l b) ++ F) s'
  | [], b, F, s, a => Ok.pure a
  | [k], b, F, s, a => put_ok (b := link 65535 b) (show PS E KK (pg k zeros :: F) s from a)
  | k :: k' :: l, b, F, s, a => Ok.bind ((put_ok (b := link k' b) (show PS E KK (pg k zeros :: _) s from a)).mono fun _ s1 h1 =>
      (puts_ok (l := k' :: l) (b := b.drop 254) (F := pg k (link k' b) :: F) (PS.mid.2 h1)).mono fun _ s2 h2 => PS.mid.1 h2)

theorem two_num {next : Nat} {r : Bs} (h : next < 65536) : ((two next ++ r).getD 0 0).toNat * 256 + ((two next ++ r).getD 1 0).toNat = next := by
  show (UInt8.ofNat (next / 256)).toNat * 256 + (UInt8.ofNat next).toNat = next
  rw [u8_ofNat (by omega), UInt8.toNat_ofNat']
  show next / 256 * 256 + next % 256 = next
  omega
theorem link_drop (next : Nat) (b : Bs) : (link next b).drop 2 = b.take 254 ++ List.replicate (254 - (b.take 254).length) 0 := rfl
theorem link_any (next : Nat) (b : Bs) {n : Nat} (h : n = (b.take 254).length) : ((link next b).drop (2 + n)).any (· != 0) = false := by
  subst h
  rw [← List.drop_drop, link_drop, List.drop_left]
  simp
theorem link_take (next : Nat) (b : Bs) {n : Nat} (h : n = (b.take 254).length) : ((link next b).drop 2).take n = b.take 254 := by
  subst h
  rw [link_drop, List.take_left]
theorem go_gets {size : Nat} : ∀ {l2 : List Nat} {head : Nat} {l : List Nat} {out b : Bs} {F : List PA}, PS E KK (pgs (chL l2 b) ++ F) s → (∀ k ∈ l2, k < 8192) → l2.head? = some head → out.length + b.length = size → l.length + l2.length = pagesOf size → b.length ≤ 254 * l2.length → 254 * l2.length ≤ b.length + 254 →
    Gets E (chainGo E size l2.length head l out) s (l ++ l2, out ++ b)
  | [], head, l, out, b, F, a, hk, hh, _, _, _, _ => by simp at hh
  | [k], head, l, out, b, F, a, hk, hh, h1, h2, h3, h4 => by
    obtain rfl : k = head := by simpa using hh
    refine Gets.bind (get_gets (show PS E KK (pg k (link 65535 b) :: F) s from a)) ?_
    have ht : b.take 254 = b := List.take_of_length_le (by simpa using h3)
    have hn : min 254 (size - out.length) = (b.take 254).length := by rw [ht]; simp at h3; omega
    have e1 : ((link 65535 b).getD 0 0).toNat * 256 + ((link 65535 b).getD 1 0).toNat = 65535 := two_num (by decide)
    dsimp only []
    rw [e1, if_neg (by
      have : l.length + 1 = pagesOf size := by simpa using h2
      simp [this]), link_any _ _ hn, if_neg (by decide), link_take _ _ hn, ht]
    exact Gets.pure
  | k :: k' :: l2, head, l, out, b, F, a, hk, hh, h1, h2, h3, h4 => by
    obtain rfl : k = head := by simpa using hh
    have a : PS E KK (pg k (link k' b) :: (pgs (chL (k' :: l2) (b.drop 254)) ++ F)) s := a
    refine Gets.bind (get_gets a) ?_
    have hb : 254 ≤ b.length := by simp only [List.length_cons] at h4; omega
    have hk' : k' < 8192 := hk k' (by simp)
    have hn : min 254 (size - out.length) = (b.take 254).length := by rw [List.length_take]; omega
    have e1 : ((link k' b).getD 0 0).toNat * 256 + ((link k' b).getD 1 0).toNat = k' := two_num (by omega)
    simp only [List.length_cons] at h2 h3 h4
    dsimp only []
    rw [e1, if_neg (by
      have g1 : ¬ k' = 65535 := by omega
      have g2 : ¬ l.length + 1 = pagesOf size := by omega
      simp [g1, g2]), link_any _ _ hn, if_neg (by decide), link_take _ _ hn]
    have := go_gets (size := size) (l2 := k' :: l2) (head := k') (l := l ++ [k]) (out := out ++ b.take 254) (b := b.drop 254) (F := pg k (link k' b) :: F) (PS.mid.2 a) (fun x hx => hk x (List.mem_cons_of_mem _ hx)) rfl
      (by rw [List.length_append, List.length_take, List.length_drop]; omega) (by simp; omega) (by rw [List.length_drop, List.length_cons]; omega) (by rw [List.length_drop, List.length_cons]; omega)
    rw [List.append_assoc, List.append_assoc, List.take_append_drop] at this
    exact this
theorem pages_fit (n : Nat) : n ≤ 254 * pagesOf n ∧ 254 * pagesOf n ≤ n + 254 ∧ 1 ≤ pagesOf n := by unfold pagesOf; omega
theorem read_gets {l : List Nat} {b : Bs} (a : PS E KK (pgs (chL l b) ++ F) s) (hk : ∀ k ∈ l, k < 8192) (hl : l.length = pagesOf b.length) (hb : b.length ≤ 16384) : Gets E (chainRead E (l.headD 0) b.length) s (l, b) := by
  have hp := pages_fit b.length
  unfold chainRead
  rw [if_neg (by omega), ← hl]
  cases l with
  | nil => simp at hl; omega
  | cons k l =>
    exact go_gets (l := []) (out := []) (b := b) (l2 := k :: l) a hk rfl (by simp) (by rw [List.length_nil, Nat.zero_add]; exact hl) (by rw [hl]; omega) (by rw [hl]; omega)

def farC (head n : Nat) : Bs := [1, UInt8.ofNat (head / 256), UInt8.ofNat head, UInt8.ofNat (n / 16777216), UInt8.ofNat (n / 65536), UInt8.ofNat (n / 256), UInt8.ofNat n]
theorem farB_farC {head n : Nat} (h1 : head < 65536) (h2 : n < 4294967296) : farB (farC head n) = some (head, n) := by
  unfold farB farC
  dsimp only []
  rw [if_pos rfl, u8_ofNat (show head / 256 < 256 by omega), u8_ofNat (show n / 16777216 < 256 by omega)]
  simp only [UInt8.toNat_ofNat']
  show some (head / 256 * 256 + head % 256, ((n / 16777216 * 256 + n / 65536 % 256) * 256 + n / 256 % 256) * 256 + n % 256) = _
  congr 2
  · omega
  · omega
structure Long (l : List Nat) (cell v : Bs) : Prop where
  big : 15 < v.length
  top : v.length ≤ 16384
  num : l.length = pagesOf v.length
  few : ∀ k ∈ l, k < 8192
  cell : cell = farC (l.headD 0) v.length
def cellA (cell v : Bs) : PA := sx fun l : List Nat => sta (fct ((l = [] ∧ cell = 0 :: v ∧ v.length ≤ 15) ∨ Long l cell v) :: pgs (chL l v))
theorem cellA_open (a : PS E KK (cellA b b0 :: F) s) : (b = 0 :: b0 ∧ b0.length ≤ 15) ∨ ∃ l, Long l b b0 ∧ PS E KK (pgs (chL l b0) ++ F) s := by
  obtain ⟨l, a⟩ := PS.sx_iff.1 a
  obtain ⟨h | h, a⟩ := PS.fct_iff.1 (PS.sta_iff.1 a)
  · exact .inl h.2
  · exact .inr ⟨l, h, a⟩
theorem cellA_short (h : b0.length ≤ 15) (a : PS E KK F s) : PS E KK (cellA (0 :: b0) b0 :: F) s :=
  PS.sx_iff.2 ⟨[], PS.sta_iff.2 (PS.fct_iff.2 ⟨.inl ⟨rfl, rfl, h⟩, a⟩)⟩
theorem cell_ok (a : PS E KK F s) : Ok (cellM E b) s fun cell s' => PS E KK (cellA cell b :: F) s' := by
  refine Ok.ite (fun h => Ok.pure (cellA_short h a)) fun h => Ok.bind ?_
  unfold chainPut
  refine Ok.ite (fun _ => Ok.fail) fun hb => Ok.bind ((taken_ok (l0 := []) a).mono ?_)
  rintro l1 s1 ⟨l2, e, hl, h1⟩
  rw [List.nil_append] at e
  subst e
  have hk : ∀ k ∈ l1, k < 8192 := fun k hk => by
    obtain ⟨A, C, rfl⟩ := List.append_of_mem hk
    unfold pgs at h1
    simp only [List.map_append, List.map_cons, List.append_assoc, List.cons_append] at h1
    exact (PS.mid.1 h1).lt
  refine Ok.bind ((puts_ok h1).mono fun _ s2 h2 => Ok.pure (Ok.pure ?_))
  exact PS.sx_iff.2 ⟨l1, PS.sta_iff.2 (PS.fct_iff.2 ⟨.inr ⟨by omega, by omega, hl, hk, rfl⟩, h2⟩)⟩
theorem head_few {l : List Nat} {n : Nat} (hl : l.length = pagesOf n) (hk : ∀ k ∈ l, k < 8192) : l.headD 0 < 65536 := by
  cases l with
  | nil => decide
  | cons k l => have := hk k (List.mem_cons_self ..); show k < _; omega
theorem value_gets (a : PS E KK (cellA b b0 :: F) s) : Gets E (valueM E b) s b0 := by
  rcases cellA_open a with ⟨rfl, h⟩ | ⟨l, h, a⟩
  · exact Gets.pure
  · unfold valueM
    rw [h.cell, if_neg (show ¬ ((farC (l.headD 0) b0.length).getD 0 1 = 0) from (by show ¬ ((1 : UInt8) = 0); decide)), farB_farC (head_few h.num h.few) (by have := h.top; omega)]
    exact Gets.bind (read_gets a h.few h.num h.top) Gets.pure
theorem lose_ok (a : PS E KK (cellA b b0 :: F) s) : Ok (loseM E b) s fun _ s' => PS E KK F s' := by
  have hF := a.tail
  rcases cellA_open a with ⟨rfl, h⟩ | ⟨l, h, a⟩
  · exact Ok.pure hF
  · unfold loseM
    rw [h.cell, if_neg (show ¬ ((farC (l.headD 0) b0.length).getD 0 1 = 0) from (by show ¬ ((1 : UInt8) = 0); decide)), farB_farC (head_few h.num h.few) (by have := h.top; omega)]
    refine Ok.bind ((read_gets a h.few h.num h.top).ok ?_)
    have := drops_ok (l := chL l b0) a
    rw [chL_fst] at this
    exact this
end
end Go.Pa
