/-
  What each kind of operation does, told by frames and by parts of the heap. Nothing of a program stands here.
-/
import Derived.Test.YtcahpllliflloaaGo
import Derived.Deep.AppendLies
import Derived.IntWalk
set_option linter.unusedVariables false
set_option linter.unusedSimpArgs false
namespace Go.Sl
open Go

/-! ### What is known of a program's types -/
class TyU (P : Program) (t : TypeId) (d : outParam TypeDesc) : Prop where
  h : P.underlying t = some d
class TyI (P : Program) (t : TypeId) (agg : outParam Bool) (size bytes : outParam Nat) (zero : outParam (List Value)) : Prop where
  info : ∃ i, P.info? t = some i ∧ i.size = size ∧ i.bytes = bytes ∧ i.zero = some (if agg then .agg zero.toArray else zero.headD undef) ∧ (agg = false → ∃ v, zero = [v] ∧ v.oneCell' = true) ∧ zero.length = size ∧ zero.all (·.oneCell') = true
  agg_ : ∀ w, (isAgg t).run P w = .ok agg w
class TyF (P : Program) (s : TypeId) (f : Nat) (off : outParam Nat) (ft : outParam TypeId) : Prop where
  h : ∃ (fields : Array Field) (fld : Field) (i : TypeInfo), P.underlying s = some (.struct fields) ∧ fields[f]? = some fld ∧ fld.offset = off ∧ fld.type = ft ∧ P.info? ft = some i ∧ i.size ≠ 0
class Fun (P : Program) (f : FuncId) : Prop where
  h : ∀ (args : Array Value) (w : World), (callFunc f args).run P w = .ok (.enter f args) w

section
variable {P : Program} {t : TypeId} {w : World}
theorem TyU.run {d : TypeDesc} [h : TyU P t d] (w : World) : (underlying t).run P w = .ok d w := run_underlying h.h w
theorem TyI.run_info {agg : Bool} {size bytes : Nat} {zero : List Value} [h : TyI P t agg size bytes zero] (w : World) : ∃ i, (typeInfo t).run P w = .ok i w ∧ i.size = size ∧ i.bytes = bytes ∧ i.zero = some (if agg then .agg zero.toArray else zero.headD undef) := by
  obtain ⟨i, h1, h2, h3, h4, _⟩ := h.info
  exact ⟨i, by simp [typeInfo, h1], h2, h3, h4⟩
theorem TyI.run_size {agg : Bool} {size bytes : Nat} {zero : List Value} [h : TyI P t agg size bytes zero] (w : World) : (sizeOf t).run P w = .ok size w := by
  obtain ⟨i, h1, h2, h3, h4, _⟩ := h.info
  simp [sizeOf, typeInfo, h1, h2]
theorem TyI.run_zero {agg : Bool} {size bytes : Nat} {zero : List Value} [h : TyI P t agg size bytes zero] (w : World) : (zeroValue t).run P w = .ok (if agg then .agg zero.toArray else zero.headD undef) w := by
  obtain ⟨i, h1, h2, h3, h4, _⟩ := h.info
  simp [zeroValue, typeInfo, h1, h4]
theorem TyI.zero_cells {agg : Bool} {size bytes : Nat} {zero : List Value} (P : Program) (t : TypeId) [h : TyI P t agg size bytes zero] : (if agg then Value.agg zero.toArray else zero.headD undef).cells = zero.toArray := by
  obtain ⟨i, h1, h2, h3, h4, h5, _⟩ := h.info
  cases agg with
  | true => rfl
  | false =>
    obtain ⟨v, rfl, hv⟩ := h5 rfl
    cases v <;> simp [Value.oneCell'] at hv <;> rfl
end

/-! ### Addresses, and what a row of cells gives -/
theorem oneCell'_cells {v : Value} (h : v.oneCell' = true) : v.cells = #[v] := by cases v <;> simp [Value.oneCell'] at h <;> rfl
/-- A value of one cell or of more, as cells. -/
def valOf (agg : Bool) (cs : List Value) : Value := if agg then .agg cs.toArray else cs.headD undef

section
variable {P : Program} {w : World} {l : List Assn} {b : Nat} {cs : List Value} {t e : TypeId}
theorem run_loadVar {agg : Bool} {size bytes : Nat} {zero : List Value} [h : TyI P t agg size bytes zero] (o : Nat) (vs : List Value) (hl : vs.length = size) (hc : ∀ (j : Nat) (u : Value), vs[j]? = some u → w.cell? ⟨b, o + j, none⟩ = some u) :
    (loadVar t ⟨b, o, none⟩).run P w = .ok (valOf agg vs) w := by
  unfold loadVar
  rw [Sem.run_bind, h.agg_ w]
  simp only [Result.andThen_ok]
  cases agg with
  | true =>
    simp only [if_true, Sem.run_bind]
    rw [TyI.run_size (P := P) (t := t) w]
    simp only [Result.andThen_ok]
    subst hl
    rw [run_loadCells_list w ⟨b, o, none⟩ vs (fun j v hj => by rw [Addr.add_lit]; exact hc j v hj)]
    simp [valOf]
  | false =>
    obtain ⟨_, _, _, _, _, h5, h6, _⟩ := h.info
    obtain ⟨v0, hz, _⟩ := h5 rfl
    rw [hz] at h6
    subst h6
    match vs, hl with
    | [v], _ =>
      have := hc 0 v rfl
      simp only [Nat.add_zero] at this
      simp [valOf, load, Sem.run, this]
end

/-! ### Bytes and texts -/
def bytesV (l : List UInt8) : List Value := l.map fun c => Value.int .u8 (c.toNat : Int)
abbrev str (l : List UInt8) : Value := .string ⟨l.toArray⟩
def byteAt (l : List UInt8) (j : Nat) : Int := ((l[j]?).getD 0).toNat
theorem byteAt_bd (l : List UInt8) (j : Nat) : 0 ≤ byteAt l j ∧ byteAt l j ≤ 255 := by
  unfold byteAt
  have := UInt8.toNat_lt ((l[j]?).getD 0)
  omega
@[simp] theorem bytesV_length (l : List UInt8) : (bytesV l).length = l.length := by simp [bytesV]
theorem bytesV_get (l : List UInt8) (j : Nat) (h : j < l.length) : (bytesV l)[j]? = some (.int .u8 (byteAt l j)) := by
  simp [bytesV, byteAt, h]
theorem bytesV_one (l : List UInt8) : ∀ v ∈ bytesV l, v.oneCell' = true := by
  intro v hv
  obtain ⟨c, _, rfl⟩ := List.mem_map.1 hv
  rfl
theorem bytesV_many (n : Nat) (c : UInt8) : bytesV (many n c) = reps n (.int .u8 (c.toNat : Int)) := by simp [bytesV, many, reps]
theorem bytesV_zeros (n : Nat) : bytesV (many n 0) = reps n (.int .u8 0) := bytesV_many n 0
theorem bytesV_append (l m : List UInt8) : bytesV (l ++ m) = bytesV l ++ bytesV m := by simp [bytesV]
theorem bytesV_take (l : List UInt8) (n : Nat) : (bytesV l).take n = bytesV (l.take n) := by simp [bytesV]
theorem bytesV_drop (l : List UInt8) (n : Nat) : (bytesV l).drop n = bytesV (l.drop n) := by simp [bytesV]

/-! ### Wraps -/
theorem wrap_of {k : IntKind} {n : Int} (h1 : k.min ≤ n) (h2 : n ≤ k.max) : k.wrap n = n := by
  cases k <;> simp [IntKind.min, IntKind.max, IntKind.signed, IntKind.bits] at h1 h2 <;> simp [IntKind.wrap, IntKind.signed, IntKind.bits] <;> omega
theorem wrap64 {n : Int} (h : -9223372036854775808 ≤ n ∧ n ≤ 9223372036854775807) : IntKind.i64.wrap n = n := wrap_of (k := .i64) h.1 h.2
theorem wrap32 {n : Int} (h : -2147483648 ≤ n ∧ n ≤ 2147483647) : IntKind.i32.wrap n = n := wrap_of (k := .i32) h.1 h.2
theorem wrapU8 {n : Int} (h : 0 ≤ n ∧ n ≤ 255) : IntKind.u8.wrap n = n := wrap_of (k := .u8) h.1 h.2
theorem wrapU32 {n : Int} (h : 0 ≤ n ∧ n ≤ 4294967295) : IntKind.u32.wrap n = n := wrap_of (k := .u32) h.1 h.2
theorem wrapU64 {n : Int} (h : 0 ≤ n ∧ n ≤ 18446744073709551615) : IntKind.u64.wrap n = n := wrap_of (k := .u64) h.1 h.2
theorem wrapU16 {n : Int} (h : 0 ≤ n ∧ n ≤ 65535) : IntKind.u16.wrap n = n := wrap_of (k := .u16) h.1 h.2

theorem wrap_u8 (n : Int) : IntKind.u8.wrap n = n % 256 := by simp [IntKind.wrap, IntKind.signed, IntKind.bits]
theorem wrap_u16 (n : Int) : IntKind.u16.wrap n = n % 65536 := by simp [IntKind.wrap, IntKind.signed, IntKind.bits]
theorem wrap_u32 (n : Int) : IntKind.u32.wrap n = n % 4294967296 := by simp [IntKind.wrap, IntKind.signed, IntKind.bits]
theorem wrap_u64 (n : Int) : IntKind.u64.wrap n = n % 18446744073709551616 := by simp [IntKind.wrap, IntKind.signed, IntKind.bits]
/-! ### Operations that only reckon -/
section
variable {P : Program} {fr : Fr} {d : Option Tmp} {ty : TypeId} {pos : String} {aft : Array Edge} {g : Option (Nat × Bool)} {v u z vx vy : Value} {x y c i : Operand} {t s e : TypeId}

theorem po_move (hx : ev fr x = some v) : Pure P ⟨d, .move x, ty, pos, aft, g⟩ fr v := fun n ds a hf w => by simp [execOp, hf.ev hx]
theorem po_assign (hx : ev fr x = some v) : Pure P ⟨d, .assign x, ty, pos, aft, g⟩ fr v := fun n ds a hf w => by simp [execOp, hf.ev hx]
theorem po_pick_true (hc : ev fr c = some (.bool true)) (hx : ev fr x = some v) : Pure P ⟨d, .pick c x y, ty, pos, aft, g⟩ fr v := fun n ds a hf w => by simp [execOp, hf.ev hx, hf.ev hc, asBool]
theorem po_pick_false (hc : ev fr c = some (.bool false)) (hy : ev fr y = some v) : Pure P ⟨d, .pick c x y, ty, pos, aft, g⟩ fr v := fun n ds a hf w => by simp [execOp, hf.ev hy, hf.ev hc, asBool]
theorem po_extract {vs : Array Value} {k : Nat} (hx : ev fr x = some (.tuple vs)) (hk : vs[k]? = some v) : Pure P ⟨d, .extract x k, ty, pos, aft, g⟩ fr v := fun n ds a hf w => by
  simp [execOp, hf.ev hx, Instr.extract, hk]
theorem po_nilCheck {ad : Addr} (hx : ev fr x = some (.pointer (some ad))) : Pure P ⟨d, .nilCheck x, ty, pos, aft, g⟩ fr (.pointer (some ad)) := fun n ds a hf w => by simp [execOp, hf.ev hx]
theorem run_fieldAt {f off : Nat} {ft : TypeId} [h : TyF P s f off ft] (b o : Nat) (w : World) : (Instr.fieldAt s (.pointer (some ⟨b, o, none⟩)) f).run P w = .ok (.pointer (some ⟨b, o + off, none⟩)) w := by
  obtain ⟨fs, fld, i, h1, h2, rfl, rfl, h4, h5⟩ := h.h
  simp [Instr.fieldAt, run_underlying h1, h2, Instr.sureAddr, fieldPlace, sizeOf, typeInfo, h4, h5, Addr.add_lit]
theorem po_fieldAddr {f off : Nat} {ft : TypeId} [h : TyF P s f off ft] {b o : Nat} (hx : ev fr x = some (.pointer (some ⟨b, o, none⟩))) : Pure P ⟨d, .fieldAddr s x f, ty, pos, aft, g⟩ fr (.pointer (some ⟨b, o + off, none⟩)) := fun n ds a hf w => by
  obtain ⟨fs, fld, i, h1, h2, rfl, rfl, h4, h5⟩ := h.h
  simp [execOp, hf.ev hx, Instr.fieldAt, run_underlying h1, h2, Instr.sureAddr, fieldPlace, sizeOf, typeInfo, h4, h5, Addr.add_lit]
theorem po_fieldAddr0 {f off : Nat} {ft : TypeId} [h : TyF P s f off ft] {b : Nat} (hx : ev fr x = some (.pointer (some ⟨b, 0, none⟩))) : Pure P ⟨d, .fieldAddr s x f, ty, pos, aft, g⟩ fr (.pointer (some ⟨b, off, none⟩)) := by
  have := po_fieldAddr (P := P) (d := d) (ty := ty) (pos := pos) (aft := aft) (g := g) (h := h) hx
  simpa using this
/-- A part of a struct's or an array's cells. -/
theorem run_part {agg : Bool} {size bytes : Nat} {zero : List Value} [h : TyI P t agg size bytes zero] (cs : List Value) (o : Nat) (ho : o + size ≤ cs.length) (w : World) : (part t cs.toArray o).run P w = .ok (valOf agg ((cs.drop o).take size)) w := by
  unfold part
  rw [Sem.run_bind, h.agg_ w]
  simp only [Result.andThen_ok]
  cases agg with
  | true =>
    simp only [if_true, Sem.run_bind]
    rw [TyI.run_size (P := P) (t := t) w]
    simp [valOf]
  | false =>
    obtain ⟨_, _, _, _, _, h5, h6, _⟩ := h.info
    obtain ⟨v0, hz, _⟩ := h5 rfl
    rw [hz] at h6
    subst h6
    have ho' : o < cs.length := by simp at ho; omega
    have ht : List.take [v0].length (List.drop o cs) = [cs[o]] := by rw [List.drop_eq_getElem_cons ho']; rfl
    rw [ht]
    simp [valOf, ho']
theorem po_field {f off : Nat} {ft : TypeId} [h : TyF P s f off ft] {agg : Bool} {size bytes : Nat} {zero : List Value} [hi : TyI P ft agg size bytes zero] {cs : List Value} (hx : ev fr x = some (.agg cs.toArray)) (ho : Nat.ble (off + size) cs.length = true) :
    Pure P ⟨d, .field s x f, ty, pos, aft, g⟩ fr (valOf agg ((cs.drop off).take size)) := fun n ds a hf w => by
  obtain ⟨fs, fld, i, h1, h2, rfl, rfl, h4, h5⟩ := h.h
  simp [execOp, hf.ev hx, Instr.field, run_underlying h1, h2, asAgg, run_part (P := P) (t := fld.type) cs fld.offset (by simpa using ho)]

/-- A binary operation's run. -/
def Bin (P : Program) (op : BinOp) (t : TypeId) (vx vy v : Value) : Prop := ∀ (x y : Operand) (w : World), (do eqGuard op t x y vx vy; binOp op t vx vy : Sem Value).run P w = .ok v w
theorem po_bin {op : BinOp} {yt : TypeId} (hx : ev fr x = some vx) (hy : ev fr y = some vy) (h : Bin P op t vx vy v) : Pure P ⟨d, .binOp op t x y yt, ty, pos, aft, g⟩ fr v := fun n ds a hf w => by
  simp only [execOp, hf.ev hx, hf.ev hy]
  have := h x y w
  simp only [Sem.run_bind] at this ⊢
  rw [this]
  rfl
section
variable {k : IntKind} {m n : Int}
theorem br_add {r : Int} (h : k.wrap (m + n) = r) : Bin P .add t (.int k m) (.int k n) (.int k r) := fun _ _ _ => by subst h; simp [eqGuard, binOp, Op.intArith]
theorem br_sub {r : Int} (h : k.wrap (m - n) = r) : Bin P .sub t (.int k m) (.int k n) (.int k r) := fun _ _ _ => by subst h; simp [eqGuard, binOp, Op.intArith]
theorem br_mul {r : Int} (h : k.wrap (m * n) = r) : Bin P .mul t (.int k m) (.int k n) (.int k r) := fun _ _ _ => by subst h; simp [eqGuard, binOp, Op.intArith]
theorem br_lss : Bin P .lss t (.int k m) (.int k n) (.bool (decide (m < n))) := fun _ _ _ => by simp [eqGuard, binOp, Op.intCmp]
theorem br_leq : Bin P .leq t (.int k m) (.int k n) (.bool (decide (m ≤ n))) := fun _ _ _ => by simp [eqGuard, binOp, Op.intCmp]
theorem br_gtr : Bin P .gtr t (.int k m) (.int k n) (.bool (decide (n < m))) := fun _ _ _ => by simp [eqGuard, binOp, Op.intCmp]
theorem br_geq : Bin P .geq t (.int k m) (.int k n) (.bool (decide (n ≤ m))) := fun _ _ _ => by simp [eqGuard, binOp, Op.intCmp]
theorem br_eql : Bin P .eql t (.int k m) (.int k n) (.bool (decide (m = n))) := fun _ _ _ => by simp [eqGuard, binOp, Op.intCmp]; rfl
theorem br_neq : Bin P .neq t (.int k m) (.int k n) (.bool (decide (m ≠ n))) := fun _ _ _ => by simp [eqGuard, binOp, Op.intCmp, bne]; rfl
/-- Quotients and remainders of what is not below 0. -/
theorem br_quo (h0 : 0 ≤ m) (h1 : 1 ≤ n) (h2 : m ≤ k.max) : Bin P .quo t (.int k m) (.int k n) (.int k (m / n)) := fun _ _ w => by
  have hn : ¬ n = 0 := by omega
  have hq : m.tdiv n = m / n := Int.tdiv_eq_ediv_of_nonneg h0
  have h3 : 0 ≤ m / n := Int.ediv_nonneg h0 (by omega)
  have h4 : m / n ≤ m := Int.ediv_le_self n h0
  have hm : k.min ≤ 0 := by cases k <;> decide
  simp [eqGuard, binOp, Op.intDiv, hn, hq, wrap_of (k := k) (n := m / n) (by omega) (by omega)]
theorem br_rem (h0 : 0 ≤ m) (h1 : 1 ≤ n) : Bin P .rem t (.int k m) (.int k n) (.int k (m % n)) := fun _ _ w => by
  have hn : ¬ n = 0 := by omega
  have hq : m.tmod n = m % n := Int.tmod_eq_emod_of_nonneg h0
  simp [eqGuard, binOp, Op.intDiv, hn, hq]
theorem br_shl {yk : IntKind} {r : Int} {j : Nat} (hj : Nat.ble j k.bits = true) (h : k.wrap (m * 2 ^ j) = r) : Bin P .shl t (.int k m) (.int yk (j : Int)) (.int k r) := fun _ _ w => by
  have hj' : j ≤ k.bits := by simpa using hj
  have h0 : ¬ ((j : Int) < 0) := by omega
  subst h
  simp [eqGuard, binOp, Op.shift, h0, Nat.min_eq_left hj']
theorem br_shr {yk : IntKind} {j : Nat} (hj : Nat.ble j k.bits = true) : Bin P .shr t (.int k m) (.int yk (j : Int)) (.int k (m / 2 ^ j)) := fun _ _ w => by
  have hj' : j ≤ k.bits := by simpa using hj
  have h0 : ¬ ((j : Int) < 0) := by omega
  simp [eqGuard, binOp, Op.shift, h0, Nat.min_eq_left hj', Int.fdiv_eq_ediv_of_nonneg]
  exact Int.fdiv_eq_ediv_of_nonneg _ (by exact Int.le_of_lt (Int.pow_pos (by decide)))
/-- And, or, exclusive or of what is not below 0. -/
theorem br_and {m n : Nat} (h1 : (m : Int) ≤ k.max) (h2 : (n : Int) ≤ k.max) : Bin P .and t (.int k m) (.int k n) (.int k ((m &&& n : Nat) : Int)) := fun _ _ w => by
  have hb : ∀ j : Nat, (j : Int) ≤ k.max → j < 2 ^ k.bits := fun j hj => by cases k <;> simp [IntKind.max, IntKind.signed, IntKind.bits] at hj ⊢ <;> omega
  have e : ∀ j : Nat, BitVec.ofInt k.bits (j : Int) = BitVec.ofNat k.bits j := fun j => by simp
  have hm := hb m h1
  have hle : m &&& n ≤ m := Nat.and_le_left
  have hm0 : k.min ≤ 0 := by cases k <;> decide
  simp only [eqGuard, binOp, Op.intBits, e]
  simp [BitVec.toNat_and, BitVec.toNat_ofNat, Nat.mod_eq_of_lt hm, Nat.mod_eq_of_lt (hb n h2)]
  exact wrap_of (by omega) (by omega)
/-- And with a mask of low bits: of whatever number. -/
theorem br_mask {m : Int} {p : Nat} (hp : Nat.ble (p + (bif k.signed then 1 else 0)) k.bits = true) : Bin P .and t (.int k m) (.int k ((2 ^ p - 1 : Nat) : Int)) (.int k (m % (2 ^ p : Nat))) := fun _ _ w => by
  have hp' : p + (bif k.signed then 1 else 0) ≤ k.bits := by simpa using hp
  have hpb : p ≤ k.bits := by omega
  have hlt : 2 ^ p ≤ 2 ^ k.bits := Nat.pow_le_pow_right (by decide) hpb
  have hpos : 0 < 2 ^ p := Nat.pow_pos (by decide)
  have e1 : (BitVec.ofInt k.bits ((2 ^ p - 1 : Nat) : Int)).toNat = 2 ^ p - 1 := by
    rw [show BitVec.ofInt k.bits ((2 ^ p - 1 : Nat) : Int) = BitVec.ofNat k.bits (2 ^ p - 1) from BitVec.ofInt_natCast _ _, BitVec.toNat_ofNat, Nat.mod_eq_of_lt (by omega)]
  have e2 : ((BitVec.ofInt k.bits m).toNat : Int) = m % (2 ^ k.bits : Nat) := by
    rw [BitVec.toNat_ofInt]
    exact Int.toNat_of_nonneg (Int.emod_nonneg _ (by have : 0 < 2 ^ k.bits := Nat.pow_pos (by decide); omega))
  have e3 : (((BitVec.ofInt k.bits m &&& BitVec.ofInt k.bits ((2 ^ p - 1 : Nat) : Int)).toNat : Nat) : Int) = m % (2 ^ p : Nat) := by
    rw [BitVec.toNat_and, e1, Nat.and_two_pow_sub_one_eq_mod, Int.natCast_emod, e2]
    exact Int.emod_emod_of_dvd _ (by exact_mod_cast Nat.pow_dvd_pow 2 hpb)
  have h0 : 0 ≤ m % ((2 ^ p : Nat) : Int) := Int.emod_nonneg _ (by omega)
  have h1 : m % ((2 ^ p : Nat) : Int) < ((2 ^ p : Nat) : Int) := Int.emod_lt_of_pos _ (by omega)
  have h2 : ((2 ^ p : Nat) : Int) ≤ k.max + 1 := by
    have hq : ∀ q : Nat, p ≤ q → ((2 ^ p : Nat) : Int) ≤ ((2 ^ q : Nat) : Int) := fun q h => by
      have := Nat.pow_le_pow_right (n := 2) (by decide) h
      omega
    cases k with
    | i8 => exact hq 7 (by simp [IntKind.signed, IntKind.bits] at hp'; omega)
    | i16 => exact hq 15 (by simp [IntKind.signed, IntKind.bits] at hp'; omega)
    | i32 => exact hq 31 (by simp [IntKind.signed, IntKind.bits] at hp'; omega)
    | i64 => exact hq 63 (by simp [IntKind.signed, IntKind.bits] at hp'; omega)
    | u8 => exact hq 8 (by simp [IntKind.signed, IntKind.bits] at hp'; omega)
    | u16 => exact hq 16 (by simp [IntKind.signed, IntKind.bits] at hp'; omega)
    | u32 => exact hq 32 (by simp [IntKind.signed, IntKind.bits] at hp'; omega)
    | u64 => exact hq 64 (by simp [IntKind.signed, IntKind.bits] at hp'; omega)
  have hm0 : k.min ≤ 0 := by cases k <;> decide
  have hr : Op.intBits .and k m ((2 ^ p - 1 : Nat) : Int) = (pure (.int k (k.wrap (((BitVec.ofInt k.bits m &&& BitVec.ofInt k.bits ((2 ^ p - 1 : Nat) : Int)).toNat : Nat) : Int))) : Sem Value) := rfl
  rw [e3, wrap_of (by omega) (by omega)] at hr
  simp only [eqGuard, binOp, hr]
  simp
theorem br_or {m n : Nat} (h1 : (m : Int) ≤ k.max) (h2 : (n : Int) ≤ k.max) : Bin P .or t (.int k m) (.int k n) (.int k ((m ||| n : Nat) : Int)) := fun _ _ w => by
  have hb : ∀ j : Nat, (j : Int) ≤ k.max → j < 2 ^ k.bits := fun j hj => by cases k <;> simp [IntKind.max, IntKind.signed, IntKind.bits] at hj ⊢ <;> omega
  have e : ∀ j : Nat, BitVec.ofInt k.bits (j : Int) = BitVec.ofNat k.bits j := fun j => by simp
  have hp : ∃ q : Nat, k.max = (2 ^ q : Nat) - 1 := by cases k <;> first | exact ⟨7, by decide⟩ | exact ⟨15, by decide⟩ | exact ⟨31, by decide⟩ | exact ⟨63, by decide⟩ | exact ⟨8, by decide⟩ | exact ⟨16, by decide⟩ | exact ⟨32, by decide⟩ | exact ⟨64, by decide⟩
  obtain ⟨q, hq⟩ := hp
  have hor : m ||| n < 2 ^ q := Nat.or_lt_two_pow (by omega) (by omega)
  have hm0 : k.min ≤ 0 := by cases k <;> decide
  simp only [eqGuard, binOp, Op.intBits, e]
  simp [BitVec.toNat_or, BitVec.toNat_ofNat, Nat.mod_eq_of_lt (hb m h1), Nat.mod_eq_of_lt (hb n h2)]
  exact wrap_of (by omega) (by omega)
/-- Or of low bits and of high ones: their sum. -/
theorem br_orS {m n : Int} (p q : Nat) (h0 : 0 ≤ m) (h1 : m < (2 ^ p : Nat)) (hn : n = (q : Int) * (2 ^ p : Nat)) (hb : m + n ≤ k.max) : Bin P .or t (.int k m) (.int k n) (.int k (m + n)) := by
  obtain ⟨a, rfl⟩ : ∃ a : Nat, m = (a : Int) := ⟨m.toNat, (Int.toNat_of_nonneg h0).symm⟩
  have hn' : n = ((q * 2 ^ p : Nat) : Int) := by rw [hn]; simp
  subst hn'
  have ha : a < 2 ^ p := by omega
  have e : a + q * 2 ^ p = a ||| q * 2 ^ p := by
    rw [Nat.add_comm, Nat.or_comm, Nat.mul_comm]
    exact Nat.two_pow_add_eq_or_of_lt ha q
  have := br_or (P := P) (t := t) (k := k) (m := a) (n := q * 2 ^ p) (by omega) (by omega)
  rw [← e] at this
  rw [← Int.natCast_add]
  exact this
theorem br_orS' {m n : Int} (p q : Nat) (h0 : 0 ≤ m) (h1 : m < (2 ^ p : Nat)) (hn : n = (q : Int) * (2 ^ p : Nat)) (hb : n + m ≤ k.max) : Bin P .or t (.int k n) (.int k m) (.int k (n + m)) := by
  obtain ⟨a, rfl⟩ : ∃ a : Nat, m = (a : Int) := ⟨m.toNat, (Int.toNat_of_nonneg h0).symm⟩
  have hn' : n = ((q * 2 ^ p : Nat) : Int) := by rw [hn]; simp
  subst hn'
  have ha : a < 2 ^ p := by omega
  have e : q * 2 ^ p + a = q * 2 ^ p ||| a := by
    rw [Nat.mul_comm]
    exact Nat.two_pow_add_eq_or_of_lt ha q
  have := br_or (P := P) (t := t) (k := k) (m := q * 2 ^ p) (n := a) (by omega) (by omega)
  rw [← e] at this
  rw [← Int.natCast_add]
  exact this
theorem br_xor {m n : Nat} (h1 : (m : Int) ≤ k.max) (h2 : (n : Int) ≤ k.max) : Bin P .xor t (.int k m) (.int k n) (.int k ((m ^^^ n : Nat) : Int)) := fun _ _ w => by
  have hb : ∀ j : Nat, (j : Int) ≤ k.max → j < 2 ^ k.bits := fun j hj => by cases k <;> simp [IntKind.max, IntKind.signed, IntKind.bits] at hj ⊢ <;> omega
  have e : ∀ j : Nat, BitVec.ofInt k.bits (j : Int) = BitVec.ofNat k.bits j := fun j => by simp
  have hp : ∃ q : Nat, k.max = (2 ^ q : Nat) - 1 := by cases k <;> first | exact ⟨7, by decide⟩ | exact ⟨15, by decide⟩ | exact ⟨31, by decide⟩ | exact ⟨63, by decide⟩ | exact ⟨8, by decide⟩ | exact ⟨16, by decide⟩ | exact ⟨32, by decide⟩ | exact ⟨64, by decide⟩
  obtain ⟨q, hq⟩ := hp
  have hor : m ^^^ n < 2 ^ q := Nat.xor_lt_two_pow (by omega) (by omega)
  have hm0 : k.min ≤ 0 := by cases k <;> decide
  simp only [eqGuard, binOp, Op.intBits, e]
  simp [BitVec.toNat_xor, BitVec.toNat_ofNat, Nat.mod_eq_of_lt (hb m h1), Nat.mod_eq_of_lt (hb n h2)]
  exact wrap_of (by omega) (by omega)
end
section
variable {l m : List UInt8}
theorem br_sadd (h : Nat.ble (l.length + m.length) 9223372036854775807 = true) : Bin P .add t (str l) (str m) (str (l ++ m)) := fun _ _ w => by
  have h' : ¬ (IntKind.i64.max < (l.length : Int) + (m.length : Int)) := by
    have : l.length + m.length ≤ 9223372036854775807 := by simpa using h
    have e : IntKind.i64.max = 9223372036854775807 := by decide
    rw [e]; omega
  have hs : ∀ l : List UInt8, (ByteArray.mk l.toArray).size = l.length := fun l => by simp [ByteArray.size]
  have he : IntKind.i64.max = 9223372036854775807 := by decide
  rw [he] at h'
  simp only [eqGuard, binOp, Op.stringOp, hs]
  simp [h', he]
  apply ByteArray.ext
  simp
theorem bytes_toList (l : List UInt8) : (ByteArray.mk l.toArray).toList = l := by
  have key : ∀ (k : Nat) (i : Nat) (r : List UInt8), l.length - i = k → ByteArray.toList.loop ⟨l.toArray⟩ i r = r.reverse ++ l.drop i := by
    intro k
    induction k with
    | zero =>
      intro i r h
      unfold ByteArray.toList.loop
      have : ¬ i < (ByteArray.mk l.toArray).size := by simp [ByteArray.size]; omega
      rw [if_neg this, List.drop_eq_nil_of_le (by omega)]; simp
    | succ k ih =>
      intro i r h
      unfold ByteArray.toList.loop
      have hlt : i < l.length := by omega
      have : i < (ByteArray.mk l.toArray).size := by simpa [ByteArray.size] using hlt
      rw [if_pos this, ih (i + 1) _ (by omega), List.drop_eq_getElem_cons hlt]
      simp [ByteArray.get!, hlt]
  unfold ByteArray.toList
  rw [key _ 0 [] rfl]; simp
theorem lbeq (l m : List UInt8) : (l == m) = decide (l = m) := by rw [Bool.eq_iff_iff]; simp
theorem br_seql : Bin P .eql t (str l) (str m) (.bool (decide (l = m))) := fun _ _ w => by
  simp [eqGuard, binOp, Op.stringOp, bytes_toList, lbeq]
theorem br_sneq : Bin P .neq t (str l) (str m) (.bool (decide (l ≠ m))) := fun _ _ w => by
  simp [eqGuard, binOp, Op.stringOp, bytes_toList, lbeq]
end
end
end Go.Sl
