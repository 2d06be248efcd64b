/-
  More operations that only reckon: comparisons with nil, conversions, cuts, lengths, parts. Nothing of a program stands here.
-/
import Derived.Test.YtcahpllliflloaaOp
set_option linter.unusedVariables false
set_option linter.unusedSimpArgs false
namespace Go.Sl
open Go
section
variable {P : Program} {fr : Fr} {d : Option Tmp} {ty : TypeId} {pos : String} {aft : Array Edge} {g : Option (Nat × Bool)} {v u z vx vy : Value} {x y c i : Operand} {t s e : TypeId}

theorem run_equal_ptr_nil {e : TypeId} [h : TyU P t (.pointer e)] (p : Option Addr) (w : World) : (Op.equal t (.pointer p) (.pointer none)).run P w = .ok p.isNone w := by
  unfold Op.equal Op.maxDepth Op.equalIn
  rw [Sem.run_bind, TyU.run (t := t) w]
  cases p <;> simp
theorem br_ptr_nil {e : TypeId} [h : TyU P t (.pointer e)] {p : Option Addr} : Bin P .eql t (.pointer p) (.pointer none) (.bool p.isNone) := fun _ _ w => by
  simp [eqGuard, binOp, run_equal_ptr_nil (P := P) (t := t) p w]
theorem br_ptr_nnil {e : TypeId} [h : TyU P t (.pointer e)] {p : Option Addr} : Bin P .neq t (.pointer p) (.pointer none) (.bool (!p.isNone)) := fun _ _ w => by
  simp [eqGuard, binOp, run_equal_ptr_nil (P := P) (t := t) p w]
theorem br_some_nil {e : TypeId} [h : TyU P t (.pointer e)] {a : Addr} : Bin P .eql t (.pointer (some a)) (.pointer none) (.bool false) := br_ptr_nil
theorem br_none_nil {e : TypeId} [h : TyU P t (.pointer e)] : Bin P .eql t (.pointer none) (.pointer none) (.bool true) := br_ptr_nil
theorem br_some_nnil {e : TypeId} [h : TyU P t (.pointer e)] {a : Addr} : Bin P .neq t (.pointer (some a)) (.pointer none) (.bool true) := br_ptr_nnil
theorem br_none_nnil {e : TypeId} [h : TyU P t (.pointer e)] : Bin P .neq t (.pointer none) (.pointer none) (.bool false) := br_ptr_nnil
theorem run_equal_slice_nil {e : TypeId} [h : TyU P t (.slice e)] (p : Option Addr) (n c k m : Nat) (w : World) : (Op.equal t (.slice p n c) (.slice none k m)).run P w = .ok p.isNone w := by
  unfold Op.equal Op.maxDepth Op.equalIn
  rw [Sem.run_bind, TyU.run (t := t) w]
  cases p <;> simp
theorem br_slice_nil {e : TypeId} [h : TyU P t (.slice e)] {p : Option Addr} {n c k m : Nat} : Bin P .eql t (.slice p n c) (.slice none k m) (.bool p.isNone) := fun _ _ w => by
  simp [eqGuard, binOp, run_equal_slice_nil (P := P) (t := t) p n c k m w]
theorem br_slice_nnil {e : TypeId} [h : TyU P t (.slice e)] {p : Option Addr} {n c k m : Nat} : Bin P .neq t (.slice p n c) (.slice none k m) (.bool (!p.isNone)) := fun _ _ w => by
  simp [eqGuard, binOp, run_equal_slice_nil (P := P) (t := t) p n c k m w]
theorem run_equal_bool [h : TyU P t .bool] (p q : Bool) (w : World) : (Op.equal t (.bool p) (.bool q)).run P w = .ok (p == q) w := by
  unfold Op.equal Op.maxDepth Op.equalIn
  rw [Sem.run_bind, TyU.run (t := t) w]
  simp
theorem br_bool_eq [h : TyU P t .bool] {p q : Bool} : Bin P .eql t (.bool p) (.bool q) (.bool (decide (p = q))) := fun _ _ w => by
  simp [eqGuard, binOp, run_equal_bool (P := P) (t := t) p q w]; cases p <;> cases q <;> rfl
theorem br_bool_ne [h : TyU P t .bool] {p q : Bool} : Bin P .neq t (.bool p) (.bool q) (.bool (decide (p ≠ q))) := fun _ _ w => by
  simp [eqGuard, binOp, run_equal_bool (P := P) (t := t) p q w]; cases p <;> cases q <;> rfl

theorem po_not {b : Bool} (hx : ev fr x = some (.bool b)) : Pure P ⟨d, .unOp .not t x, ty, pos, aft, g⟩ fr (.bool (!b)) := fun n ds a hf w => by simp [execOp, hf.ev hx, Op.unary]
theorem po_not_dec {p : Prop} [Decidable p] (hx : ev fr x = some (.bool (decide p))) : Pure P ⟨d, .unOp .not t x, ty, pos, aft, g⟩ fr (.bool (decide (¬ p))) := fun n ds a hf w => by simp [execOp, hf.ev hx, Op.unary]
theorem po_not_true (hx : ev fr x = some (.bool true)) : Pure P ⟨d, .unOp .not t x, ty, pos, aft, g⟩ fr (.bool false) := po_not hx
theorem po_not_false (hx : ev fr x = some (.bool false)) : Pure P ⟨d, .unOp .not t x, ty, pos, aft, g⟩ fr (.bool true) := po_not hx
theorem po_neg {k : IntKind} {m r : Int} (hx : ev fr x = some (.int k m)) (h : k.wrap (0 - m) = r) : Pure P ⟨d, .unOp .neg t x, ty, pos, aft, g⟩ fr (.int k r) := fun n ds a hf w => by subst h; simp [execOp, hf.ev hx, Op.unary, Op.intArith]

theorem po_conv_int {k k' : IntKind} {m r : Int} {src dst : TypeId} {sd : TypeDesc} [h1 : TyU P src sd] [h2 : TyU P dst (.int k)] (hx : ev fr x = some (.int k' m)) (h : k.wrap m = r) : Pure P ⟨d, .convert src dst x, ty, pos, aft, g⟩ fr (.int k r) := fun n ds a hf w => by
  subst h
  simp only [execOp, hf.ev hx, convert]
  simp [TyU.run (P := P) (t := src) w, TyU.run (P := P) (t := dst) w, Conv.intToInt]
theorem po_conv_str {src dst : TypeId} {sd : TypeDesc} {l : List UInt8} [h1 : TyU P src sd] [h2 : TyU P dst .string] (hx : ev fr x = some (str l)) : Pure P ⟨d, .convert src dst x, ty, pos, aft, g⟩ fr (str l) := fun n ds a hf w => by
  simp only [execOp, hf.ev hx, convert]
  simp [TyU.run (P := P) (t := src) w, TyU.run (P := P) (t := dst) w]

/-! #### Lengths -/
theorem po_len_str {l : List UInt8} [h1 : TyU P t .string] (hx : ev fr x = some (str l)) : Pure P ⟨d, .call { callee := .builtin .len, args := #[x], argTypes := #[t] }, ty, pos, aft, g⟩ fr (.int .i64 (l.length : Int)) := fun n ds a hf w => by
  have hs : (ByteArray.mk l.toArray).size = l.length := by simp [ByteArray.size]
  simp [execOp, resolve, invoke, builtin, Builtin.len_, hf.ev hx, TyU.run (P := P) (t := t) w, goInt, hs]
theorem po_len_slice {p : Option Addr} {k c : Nat} [h1 : TyU P t (.slice e)] (hx : ev fr x = some (.slice p k c)) : Pure P ⟨d, .call { callee := .builtin .len, args := #[x], argTypes := #[t] }, ty, pos, aft, g⟩ fr (.int .i64 (k : Int)) := fun n ds a hf w => by
  simp [execOp, resolve, invoke, builtin, Builtin.len_, hf.ev hx, TyU.run (P := P) (t := t) w, goInt]
theorem po_len_array {k : Nat} [h1 : TyU P t (.array k e)] (hx : ev fr x = some v) : Pure P ⟨d, .call { callee := .builtin .len, args := #[x], argTypes := #[t] }, ty, pos, aft, g⟩ fr (.int .i64 (k : Int)) := fun n ds a hf w => by
  simp [execOp, resolve, invoke, builtin, Builtin.len_, hf.ev hx, TyU.run (P := P) (t := t) w, goInt]
theorem po_cap_slice {p : Option Addr} {k c : Nat} [h1 : TyU P t (.slice e)] (hx : ev fr x = some (.slice p k c)) : Pure P ⟨d, .call { callee := .builtin .cap, args := #[x], argTypes := #[t] }, ty, pos, aft, g⟩ fr (.int .i64 (c : Int)) := fun n ds a hf w => by
  simp [execOp, resolve, invoke, builtin, Builtin.cap_, hf.ev hx, TyU.run (P := P) (t := t) w, goInt]
theorem po_min {k k' : IntKind} {m n : Int} (hx : ev fr x = some (.int k m)) (hy : ev fr y = some (.int k' n)) {ts : Array TypeId} : Pure P ⟨d, .call { callee := .builtin .min, args := #[x, y], argTypes := ts }, ty, pos, aft, g⟩ fr (.int k (min m n)) := fun n' ds a hf w => by
  simp [execOp, resolve, invoke, builtin, Builtin.min_, Builtin.min2, hf.ev hx, hf.ev hy]
  split <;> omega
theorem po_max {k k' : IntKind} {m n : Int} (hx : ev fr x = some (.int k m)) (hy : ev fr y = some (.int k' n)) {ts : Array TypeId} : Pure P ⟨d, .call { callee := .builtin .max, args := #[x, y], argTypes := ts }, ty, pos, aft, g⟩ fr (.int k (max m n)) := fun n' ds a hf w => by
  simp [execOp, resolve, invoke, builtin, Builtin.max_, Builtin.max2, hf.ev hx, hf.ev hy]
  split <;> omega

/-! #### Indexes -/
theorem po_index_str {l : List UInt8} {j : Nat} [h1 : TyU P t .string] {k : IntKind} (hx : ev fr x = some (str l)) (hi : ev fr i = some (.int k (j : Int))) (h : j < l.length) : Pure P ⟨d, .index t x i, ty, pos, aft, g⟩ fr (.int .u8 (byteAt l j)) := fun n ds a hf w => by
  simp only [execOp, hf.ev hx, hf.ev hi, Instr.index, asIntOf]
  have e : (ByteArray.mk l.toArray)[j]? = some (l[j]) := by
    rw [getElem?_pos _ _ (by simpa [ByteArray.size] using h)]
    rfl
  simp [TyU.run (P := P) (t := t) w, e, byteAt, h]
theorem po_index_arr {cs : List Value} {n : Nat} {agg : Bool} {size bytes : Nat} {zero : List Value} [h1 : TyU P t (.array n e)] [h2 : TyI P e agg size bytes zero] {k : IntKind} {j : Nat} (hx : ev fr x = some (.agg cs.toArray)) (hi : ev fr i = some (.int k (j : Int))) (h : j < n) (hl : j * size + size ≤ cs.length) :
    Pure P ⟨d, .index t x i, ty, pos, aft, g⟩ fr (valOf agg ((cs.drop (j * size)).take size)) := fun n' ds a hf w => by
  simp only [execOp, hf.ev hx, hf.ev hi, Instr.index, asIntOf]
  have h' : (j : Int) < (n : Int) := by omega
  simp [TyU.run (P := P) (t := t) w, h, TyI.run_size (P := P) (t := e) w, run_part (P := P) (t := e) cs (j * size) hl]
/-- The address of a slice's element. -/
theorem po_indexAddr {agg : Bool} {size bytes : Nat} {zero : List Value} [h1 : TyU P t (.slice e)] [h2 : TyI P e agg size bytes zero] {k : IntKind} {j b o n c : Nat} (hx : ev fr x = some (.slice (some ⟨b, o, none⟩) n c)) (hi : ev fr i = some (.int k (j : Int))) (h : j < n) :
    Pure P ⟨d, .indexAddr t x i, ty, pos, aft, g⟩ fr (.pointer (some ⟨b, o + j * size, none⟩)) := fun n' ds a hf w => by
  simp only [execOp, hf.ev hx, hf.ev hi, Instr.indexAt, asIntOf]
  simp [TyU.run (P := P) (t := t) w, h, TyI.run_size (P := P) (t := e) w, Addr.add_lit]
theorem po_indexAddr1 {agg : Bool} {bytes : Nat} {zero : List Value} [h1 : TyU P t (.slice e)] [h2 : TyI P e agg 1 bytes zero] {k : IntKind} {j b o n c : Nat} (hx : ev fr x = some (.slice (some ⟨b, o, none⟩) n c)) (hi : ev fr i = some (.int k (j : Int))) (h : j < n) :
    Pure P ⟨d, .indexAddr t x i, ty, pos, aft, g⟩ fr (.pointer (some ⟨b, o + j, none⟩)) := by
  have := po_indexAddr (P := P) (t := t) (d := d) (ty := ty) (pos := pos) (aft := aft) (g := g) (h2 := h2) hx hi h
  simpa using this
theorem po_indexAddr01 {agg : Bool} {bytes : Nat} {zero : List Value} [h1 : TyU P t (.slice e)] [h2 : TyI P e agg 1 bytes zero] {k : IntKind} {j b n c : Nat} (hx : ev fr x = some (.slice (some ⟨b, 0, none⟩) n c)) (hi : ev fr i = some (.int k (j : Int))) (h : j < n) :
    Pure P ⟨d, .indexAddr t x i, ty, pos, aft, g⟩ fr (.pointer (some ⟨b, j, none⟩)) := by
  have := po_indexAddr1 (P := P) (t := t) (d := d) (ty := ty) (pos := pos) (aft := aft) (g := g) (h2 := h2) hx hi h
  simpa using this
theorem po_indexAddr0 {agg : Bool} {size bytes : Nat} {zero : List Value} [h1 : TyU P t (.slice e)] [h2 : TyI P e agg size bytes zero] {k : IntKind} {j b n c : Nat} (hx : ev fr x = some (.slice (some ⟨b, 0, none⟩) n c)) (hi : ev fr i = some (.int k (j : Int))) (h : j < n) :
    Pure P ⟨d, .indexAddr t x i, ty, pos, aft, g⟩ fr (.pointer (some ⟨b, j * size, none⟩)) := by
  have := po_indexAddr (P := P) (t := t) (d := d) (ty := ty) (pos := pos) (aft := aft) (g := g) (h2 := h2) hx hi h
  simpa using this
/-- The address of an array variable's element. -/
theorem po_indexAddrA {agg : Bool} {size bytes : Nat} {zero : List Value} {n : Nat} [h1 : TyU P t (.array n e)] [h2 : TyI P e agg size bytes zero] {k : IntKind} {j b o : Nat} (hx : ev fr x = some (.pointer (some ⟨b, o, none⟩))) (hi : ev fr i = some (.int k (j : Int))) (h : j < n) :
    Pure P ⟨d, .indexAddr t x i, ty, pos, aft, g⟩ fr (.pointer (some ⟨b, o + j * size, none⟩)) := fun n' ds a hf w => by
  simp only [execOp, hf.ev hx, hf.ev hi, Instr.indexAt, asIntOf]
  simp [TyU.run (P := P) (t := t) w, Instr.sureAddr, h, TyI.run_size (P := P) (t := e) w, Addr.add_lit]

/-! #### Cuts -/
theorem run_bound {k : IntKind} {j y : Nat} (h : j ≤ y) (code : BoundsCode) (w : World) : (Instr.sliceBound (.int k (j : Int)) y code).run P w = .ok j w := by
  simp [Instr.sliceBound, asIntOf, h]
theorem po_slice_str {l : List UInt8} {k k' : IntKind} {a b : Nat} {lo hi : Operand} [h1 : TyU P t .string] (hx : ev fr x = some (str l)) (hl : ev fr lo = some (.int k (a : Int))) (hh : ev fr hi = some (.int k' (b : Int))) (h1 : a ≤ b) (h2 : b ≤ l.length) :
    Pure P ⟨d, .slice t x (some lo) (some hi) none, ty, pos, aft, g⟩ fr (str ((l.take b).drop a)) := fun n ds ac hf w => by
  have hs : (ByteArray.mk l.toArray).size = l.length := by simp [ByteArray.size]
  simp only [execOp, hf.ev hx, hf.ev hl, hf.ev hh, Instr.sliceAt, Option.map_some, Option.map_none, Instr.slice, Instr.sliceBounds, hs]
  simp [TyU.run (P := P) (t := t) w, hs, run_bound (P := P) h2, run_bound (P := P) h1]
  apply ByteArray.ext
  simp [ByteArray.extract, ByteArray.copySlice, List.extract, List.drop_take]
theorem po_slice_str_lo {l : List UInt8} {k : IntKind} {a : Nat} {lo : Operand} [h1 : TyU P t .string] (hx : ev fr x = some (str l)) (hl : ev fr lo = some (.int k (a : Int))) (h2 : a ≤ l.length) :
    Pure P ⟨d, .slice t x (some lo) none none, ty, pos, aft, g⟩ fr (str (l.drop a)) := fun n ds ac hf w => by
  have hs : (ByteArray.mk l.toArray).size = l.length := by simp [ByteArray.size]
  simp only [execOp, hf.ev hx, hf.ev hl, Instr.sliceAt, Option.map_some, Option.map_none, Instr.slice, Instr.sliceBounds, hs]
  simp [TyU.run (P := P) (t := t) w, hs, run_bound (P := P) h2]
  apply ByteArray.ext
  simp [ByteArray.extract, ByteArray.copySlice, List.extract, List.drop_take]
  rw [List.take_of_length_le (by simp)]
theorem po_slice_str_hi {l : List UInt8} {k : IntKind} {b : Nat} {hi : Operand} [h1 : TyU P t .string] (hx : ev fr x = some (str l)) (hh : ev fr hi = some (.int k (b : Int))) (h2 : b ≤ l.length) :
    Pure P ⟨d, .slice t x none (some hi) none, ty, pos, aft, g⟩ fr (str (l.take b)) := fun n ds ac hf w => by
  have hs : (ByteArray.mk l.toArray).size = l.length := by simp [ByteArray.size]
  simp only [execOp, hf.ev hx, hf.ev hh, Instr.sliceAt, Option.map_some, Option.map_none, Instr.slice, Instr.sliceBounds, hs]
  simp [TyU.run (P := P) (t := t) w, hs, run_bound (P := P) h2]
  apply ByteArray.ext
  simp [ByteArray.extract, ByteArray.copySlice, List.extract]
/-- A slice cut: its address told by 'if', as the model has it. -/
def cutAt (a : Option Addr) (l m size : Nat) : Option Addr := if m = l then a else a.map (·.add (l * size))
section
variable {p : Option Addr} {n c : Nat} {agg : Bool} {size bytes : Nat} {zero : List Value} {k k' k'' : IntKind} {a b m : Nat} {lo hi mx : Operand}
theorem po_slice [h1 : TyU P t (.slice e)] [h2 : TyI P e agg size bytes zero] (hx : ev fr x = some (.slice p n c)) (hl : ev fr lo = some (.int k (a : Int))) (hh : ev fr hi = some (.int k' (b : Int))) (ha : a ≤ b) (hb : b ≤ c) :
    Pure P ⟨d, .slice t x (some lo) (some hi) none, ty, pos, aft, g⟩ fr (.slice (cutAt p a c size) (b - a) (c - a)) := fun n ds ac hf w => by
  simp only [execOp, hf.ev hx, hf.ev hl, hf.ev hh, Instr.sliceAt, Option.map_some, Option.map_none, Instr.slice, Instr.sliceBounds]
  simp [TyU.run (P := P) (t := t) w, run_bound (P := P) hb, run_bound (P := P) ha, TyI.run_size (P := P) (t := e) w, cutAt]
theorem po_slice_lo [h1 : TyU P t (.slice e)] [h2 : TyI P e agg size bytes zero] (hx : ev fr x = some (.slice p n c)) (hl : ev fr lo = some (.int k (a : Int))) (ha : a ≤ n) :
    Pure P ⟨d, .slice t x (some lo) none none, ty, pos, aft, g⟩ fr (.slice (cutAt p a c size) (n - a) (c - a)) := fun n ds ac hf w => by
  simp only [execOp, hf.ev hx, hf.ev hl, Instr.sliceAt, Option.map_some, Option.map_none, Instr.slice, Instr.sliceBounds]
  simp [TyU.run (P := P) (t := t) w, run_bound (P := P) ha, TyI.run_size (P := P) (t := e) w, cutAt]
theorem po_slice_hi [h1 : TyU P t (.slice e)] [h2 : TyI P e agg size bytes zero] (hx : ev fr x = some (.slice p n c)) (hh : ev fr hi = some (.int k (b : Int))) (hb : b ≤ c) :
    Pure P ⟨d, .slice t x none (some hi) none, ty, pos, aft, g⟩ fr (.slice p b c) := fun n ds ac hf w => by
  simp only [execOp, hf.ev hx, hf.ev hh, Instr.sliceAt, Option.map_some, Option.map_none, Instr.slice, Instr.sliceBounds]
  simp [TyU.run (P := P) (t := t) w, run_bound (P := P) hb, TyI.run_size (P := P) (t := e) w]
  cases p with
  | none => simp
  | some q => simp [Addr.add]
theorem po_slice3 [h1 : TyU P t (.slice e)] [h2 : TyI P e agg size bytes zero] (hx : ev fr x = some (.slice p n c)) (hl : ev fr lo = some (.int k (a : Int))) (hh : ev fr hi = some (.int k' (b : Int))) (hm : ev fr mx = some (.int k'' (m : Int))) (ha : a ≤ b) (hb : b ≤ m) (hc : m ≤ c) :
    Pure P ⟨d, .slice t x (some lo) (some hi) (some mx), ty, pos, aft, g⟩ fr (.slice (cutAt p a m size) (b - a) (m - a)) := fun n ds ac hf w => by
  simp only [execOp, hf.ev hx, hf.ev hl, hf.ev hh, hf.ev hm, Instr.sliceAt, Option.map_some, Option.map_none, Instr.slice, Instr.sliceBounds]
  simp [TyU.run (P := P) (t := t) w, run_bound (P := P) hb, run_bound (P := P) ha, run_bound (P := P) hc, TyI.run_size (P := P) (t := e) w, cutAt]
theorem po_slice3_hi [h1 : TyU P t (.slice e)] [h2 : TyI P e agg size bytes zero] (hx : ev fr x = some (.slice p n c)) (hh : ev fr hi = some (.int k' (b : Int))) (hm : ev fr mx = some (.int k'' (m : Int))) (hb : b ≤ m) (hc : m ≤ c) :
    Pure P ⟨d, .slice t x none (some hi) (some mx), ty, pos, aft, g⟩ fr (.slice p b m) := fun n ds ac hf w => by
  simp only [execOp, hf.ev hx, hf.ev hh, hf.ev hm, Instr.sliceAt, Option.map_some, Option.map_none, Instr.slice, Instr.sliceBounds]
  simp [TyU.run (P := P) (t := t) w, run_bound (P := P) hb, run_bound (P := P) hc, TyI.run_size (P := P) (t := e) w]
  cases p with
  | none => simp
  | some q => simp [Addr.add]
/-- Of an array variable. -/
theorem po_slice_arr {q o : Nat} [h1 : TyU P t (.array n e)] [h2 : TyI P e agg size bytes zero] (hx : ev fr x = some (.pointer (some ⟨q, o, none⟩))) :
    Pure P ⟨d, .slice t x none none none, ty, pos, aft, g⟩ fr (.slice (some ⟨q, o, none⟩) n n) := fun n ds ac hf w => by
  simp only [execOp, hf.ev hx, Instr.sliceAt, Option.map_none, Instr.sliceBounds]
  simp [TyU.run (P := P) (t := t) w, Instr.sureAddr, TyI.run_size (P := P) (t := e) w, Addr.add]
theorem po_slice_arr_hi {q o : Nat} [h1 : TyU P t (.array n e)] [h2 : TyI P e agg size bytes zero] (hx : ev fr x = some (.pointer (some ⟨q, o, none⟩))) (hh : ev fr hi = some (.int k (b : Int))) (hb : b ≤ n) :
    Pure P ⟨d, .slice t x none (some hi) none, ty, pos, aft, g⟩ fr (.slice (some ⟨q, o, none⟩) b n) := fun n ds ac hf w => by
  simp only [execOp, hf.ev hx, hf.ev hh, Instr.sliceAt, Option.map_some, Option.map_none, Instr.sliceBounds]
  simp [TyU.run (P := P) (t := t) w, Instr.sureAddr, run_bound (P := P) hb, TyI.run_size (P := P) (t := e) w, Addr.add]
theorem po_arrayAt {q o : Nat} [h1 : TyU P t (.array n e)] (hx : ev fr x = some (.slice (some ⟨q, o, none⟩) m c)) (h : n ≤ m) : Pure P ⟨d, .sliceToArrayPointer t x, ty, pos, aft, g⟩ fr (.pointer (some ⟨q, o, none⟩)) := fun n' ds ac hf w => by
  have h' : ¬ m < n := by omega
  simp only [execOp, hf.ev hx, Instr.arrayAt]
  simp [TyU.run (P := P) (t := t) w, h']
end
theorem po_makeFunc {fn : Fn} {first capt : Array Operand} {vf vc : List Value} (h1 : evs fr first.toList = some vf) (h2 : evs fr capt.toList = some vc) : Pure P ⟨d, .makeFunc fn first capt, ty, pos, aft, g⟩ fr (.func fn vf.toArray vc.toArray) := fun n ds a hf w => by
  have e1 : first.map a.eval = vf.toArray := by apply Array.ext'; simpa using hf.evs h1
  have e2 : capt.map a.eval = vc.toArray := by apply Array.ext'; simpa using hf.evs h2
  simp [execOp, Instr.makeFunc, e1, e2]
end
end Go.Sl
