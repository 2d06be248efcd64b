/-
  What each kind of operation does, told by frames and by parts of the heap | Keys stand in the order of their values; equal keys are of one value | Pages as parts: what the calls on pages do to them
-/
import Derived.Test.YtkccjgllanpebaaGreatDoorYac
import Derived.Deep.AppendLies
import Derived.IntWalk
import Derived.Test.YtkccjgllanpebaaGreatDoorYad
set_option linter.unusedVariables false
set_option linter.unusedSimpArgs false
namespace Go.Sl
open Go
class TyU (P : Program) (t : TypeId) (d : outParam TypeDesc) : Prop where
  h : P.underlying t = some d
class TyI (P : Program) (t : TypeId) (agg : outParam Bool) (size bytes : outParam Nat) (zero : outParam (List Value)) : Prop where
  info : ∃ i, P.info? t = some i ∧ i.size = size ∧ i.bytes = bytes ∧ i.zero = some (if agg then .agg zero.toArray else zero.headD undef) ∧ (agg = false → ∃ v, zero = [v] ∧ v.oneCell' = true) ∧ zero.length = size ∧ zero.all (·.oneCell') = true
  agg_ : ∀ w, (isAgg t).run P w = .ok agg w
class TyF (P : Program) (s : TypeId) (f : Nat) (off : outParam Nat) (ft : outParam TypeId) : Prop where
  h : ∃ (fields : Array Field) (fld : Field) (i : TypeInfo), P.underlying s = some (.struct fields) ∧ fields[f]? = some fld ∧ fld.offset = off ∧ fld.type = ft ∧ P.info? ft = some i ∧ i.size ≠ 0
class Fun (P : Program) (f : FuncId) : Prop where
  h : ∀ (args : Array Value) (w : World), (callFunc f args).run P w = .ok (.enter f args) w

section
variable {P : Program} {t : TypeId} {w : World}
theorem TyU.run {d : TypeDesc} [h : TyU P t d] (w : World) : (underlying t).run P w = .ok d w := run_underlying h.h w
theorem TyI.run_info {agg : Bool} {size bytes : Nat} {zero : List Value} [h : TyI P t agg size bytes zero] (w : World) : ∃ i, (typeInfo t).run P w = .ok i w ∧ i.size = size ∧ i.bytes = bytes ∧ i.zero = some (if agg then .agg zero.toArray else zero.headD undef) := by
  obtain ⟨i, h1, h2, h3, h4, _⟩ := h.info
  exact ⟨i, by simp [typeInfo, h1], h2, h3, h4⟩
theorem TyI.run_size {agg : Bool} {size bytes : Nat} {zero : List Value} [h : TyI P t agg size bytes zero] (w : World) : (sizeOf t).run P w = .ok size w := by
  obtain ⟨i, h1, h2, h3, h4, _⟩ := h.info
  simp [sizeOf, typeInfo, h1, h2]
theorem TyI.run_zero {agg : Bool} {size bytes : Nat} {zero : List Value} [h : TyI P t agg size bytes zero] (w : World) : (zeroValue t).run P w = .ok (if agg then .agg zero.toArray else zero.headD undef) w := by
  obtain ⟨i, h1, h2, h3, h4, _⟩ := h.info
  simp [zeroValue, typeInfo, h1, h4]
theorem TyI.zero_cells {agg : Bool} {size bytes : Nat} {zero : List Value} (P : Program) (t : TypeId) [h : TyI P t agg size bytes zero] : (if agg then Value.agg zero.toArray else zero.headD undef).cells = zero.toArray := by
  obtain ⟨i, h1, h2, h3, h4, h5, _⟩ := h.info
  cases agg with
  | true => rfl
  | false =>
    obtain ⟨v, rfl, hv⟩ := h5 rfl
    cases v <;> simp [Value.oneCell'] at hv <;> rfl
end

theorem oneCell'_cells {v : Value} (h : v.oneCell' = true) : v.cells = #[v] := by cases v <;> simp [Value.oneCell'] at h <;> rfl
def valOf (agg : Bool) (cs : List Value) : Value := if agg then .agg cs.toArray else cs.headD undef

section
variable {P : Program} {w : World} {l : List Assn} {b : Nat} {cs : List Value} {t e : TypeId}
theorem run_loadVar {agg : Bool} {size bytes : Nat} {zero : List Value} [h : TyI P t agg size bytes zero] (o : Nat) (vs : List Value) (hl : vs.length = size) (hc : ∀ (j : Nat) (u : Value), vs[j]? = some u → w.cell? ⟨b, o + j, none⟩ = some u) :
    (loadVar t ⟨b, o, none⟩).run P w = .ok (valOf agg vs) w := by
  unfold loadVar
  rw [Sem.run_bind, h.agg_ w]
  simp only [Result.andThen_ok]
  cases agg with
  | true =>
    simp only [if_true, Sem.run_bind]
    rw [TyI.run_size (P := P) (t := t) w]
    simp only [Result.andThen_ok]
    subst hl
    rw [run_loadCells_list w ⟨b, o, none⟩ vs (fun j v hj => by rw [Addr.add_lit]; exact hc j v hj)]
    simp [valOf]
  | false =>
    obtain ⟨_, _, _, _, _, h5, h6, _⟩ := h.info
    obtain ⟨v0, hz, _⟩ := h5 rfl
    rw [hz] at h6
    subst h6
    match vs, hl with
    | [v], _ =>
      have := hc 0 v rfl
      simp only [Nat.add_zero] at this
      simp [valOf, load, Sem.run, this]
end

def bytesV (l : List UInt8) : List Value := l.map fun c => Value.int .u8 (c.toNat : Int)
abbrev str (l : List UInt8) : Value := .string ⟨l.toArray⟩
def byteAt (l : List UInt8) (j : Nat) : Int := ((l[j]?).getD 0).toNat
theorem byteAt_bd (l : List UInt8) (j : Nat) : 0 ≤ byteAt l j ∧ byteAt l j ≤ 255 := by
  unfold byteAt
  have := UInt8.toNat_lt ((l[j]?).getD 0)
  omega
@[simp] theorem bytesV_length (l : List UInt8) : (bytesV l).length = l.length := by simp [bytesV]
theorem bytesV_get (l : List UInt8) (j : Nat) (h : j < l.length) : (bytesV l)[j]? = some (.int .u8 (byteAt l j)) := by
  simp [bytesV, byteAt, h]
theorem bytesV_one (l : List UInt8) : ∀ v ∈ bytesV l, v.oneCell' = true := by
  intro v hv
  obtain ⟨c, _, rfl⟩ := List.mem_map.1 hv
  rfl
theorem bytesV_many (n : Nat) (c : UInt8) : bytesV (many n c) = reps n (.int .u8 (c.toNat : Int)) := by simp [bytesV, many, reps]
theorem bytesV_zeros (n : Nat) : bytesV (many n 0) = reps n (.int .u8 0) := bytesV_many n 0
theorem bytesV_append (l m : List UInt8) : bytesV (l ++ m) = bytesV l ++ bytesV m := by simp [bytesV]
theorem bytesV_take (l : List UInt8) (n : Nat) : (bytesV l).take n = bytesV (l.take n) := by simp [bytesV]
theorem bytesV_drop (l : List UInt8) (n : Nat) : (bytesV l).drop n = bytesV (l.drop n) := by simp [bytesV]

theorem wrap_of {k : IntKind} {n : Int} (h1 : k.min ≤ n) (h2 : n ≤ k.max) : k.wrap n = n := by
  cases k <;> simp [IntKind.min, IntKind.max, IntKind.signed, IntKind.bits] at h1 h2 <;> simp [IntKind.wrap, IntKind.signed, IntKind.bits] <;> omega
theorem wrap64 {n : Int} (h : -9223372036854775808 ≤ n ∧ n ≤ 9223372036854775807) : IntKind.i64.wrap n = n := wrap_of (k := .i64) h.1 h.2

theorem wrap_u8 (n : Int) : IntKind.u8.wrap n = n % 256 := by simp [IntKind.wrap, IntKind.signed, IntKind.bits]
theorem wrap_u16 (n : Int) : IntKind.u16.wrap n = n % 65536 := by simp [IntKind.wrap, IntKind.signed, IntKind.bits]
theorem wrap_u32 (n : Int) : IntKind.u32.wrap n = n % 4294967296 := by simp [IntKind.wrap, IntKind.signed, IntKind.bits]
theorem wrap_u64 (n : Int) : IntKind.u64.wrap n = n % 18446744073709551616 := by simp [IntKind.wrap, IntKind.signed, IntKind.bits]
section
variable {P : Program} {fr : Fr} {d : Option Tmp} {ty : TypeId} {pos : String} {aft : Array Edge} {g : Option (Nat × Bool)} {v u z vx vy : Value} {x y c i : Operand} {t s e : TypeId}

theorem po_move (hx : ev fr x = some v) : Pure P ⟨d, .move x, ty, pos, aft, g⟩ fr v := fun n ds a hf w => by simp [execOp, hf.ev hx]
theorem po_assign (hx : ev fr x = some v) : Pure P ⟨d, .assign x, ty, pos, aft, g⟩ fr v := fun n ds a hf w => by simp [execOp, hf.ev hx]
theorem po_pick_true (hc : ev fr c = some (.bool true)) (hx : ev fr x = some v) : Pure P ⟨d, .pick c x y, ty, pos, aft, g⟩ fr v := fun n ds a hf w => by simp [execOp, hf.ev hx, hf.ev hc, asBool]
theorem po_pick_false (hc : ev fr c = some (.bool false)) (hy : ev fr y = some v) : Pure P ⟨d, .pick c x y, ty, pos, aft, g⟩ fr v := fun n ds a hf w => by simp [execOp, hf.ev hy, hf.ev hc, asBool]
theorem po_extract {vs : Array Value} {k : Nat} (hx : ev fr x = some (.tuple vs)) (hk : vs[k]? = some v) : Pure P ⟨d, .extract x k, ty, pos, aft, g⟩ fr v := fun n ds a hf w => by
  simp [execOp, hf.ev hx, Instr.extract, hk]
theorem po_nilCheck {ad : Addr} (hx : ev fr x = some (.pointer (some ad))) : Pure P ⟨d, .nilCheck x, ty, pos, aft, g⟩ fr (.pointer (some ad)) := fun n ds a hf w => by simp [execOp, hf.ev hx]
theorem run_fieldAt {f off : Nat} {ft : TypeId} [h : TyF P s f off ft] (b o : Nat) (w : World) : (Instr.fieldAt s (.pointer (some ⟨b, o, none⟩)) f).run P w = .ok (.pointer (some ⟨b, o + off, none⟩)) w := by
  obtain ⟨fs, fld, i, h1, h2, rfl, rfl, h4, h5⟩ := h.h
  simp [Instr.fieldAt, run_underlying h1, h2, Instr.sureAddr, fieldPlace, sizeOf, typeInfo, h4, h5, Addr.add_lit]
theorem po_fieldAddr {f off : Nat} {ft : TypeId} [h : TyF P s f off ft] {b o : Nat} (hx : ev fr x = some (.pointer (some ⟨b, o, none⟩))) : Pure P ⟨d, .fieldAddr s x f, ty, pos, aft, g⟩ fr (.pointer (some ⟨b, o + off, none⟩)) := fun n ds a hf w => by
  obtain ⟨fs, fld, i, h1, h2, rfl, rfl, h4, h5⟩ := h.h
  simp [execOp, hf.ev hx, Instr.fieldAt, run_underlying h1, h2, Instr.sureAddr, fieldPlace, sizeOf, typeInfo, h4, h5, Addr.add_lit]

def Bin (P : Program) (op : BinOp) (t : TypeId) (vx vy v : Value) : Prop := ∀ (x y : Operand) (w : World), (do eqGuard op t x y vx vy; binOp op t vx vy : Sem Value).run P w = .ok v w
theorem po_bin {op : BinOp} {yt : TypeId} (hx : ev fr x = some vx) (hy : ev fr y = some vy) (h : Bin P op t vx vy v) : Pure P ⟨d, .binOp op t x y yt, ty, pos, aft, g⟩ fr v := fun n ds a hf w => by
  simp only [execOp, hf.ev hx, hf.ev hy]
  have := h x y w
  simp only [Sem.run_bind] at this ⊢
  rw [this]
  rfl
section
variable {k : IntKind} {m n : Int}
theorem br_add {r : Int} (h : k.wrap (m + n) = r) : Bin P .add t (.int k m) (.int k n) (.int k r) := fun _ _ _ => by subst h; simp [eqGuard, binOp, Op.intArith]
theorem br_sub {r : Int} (h : k.wrap (m - n) = r) : Bin P .sub t (.int k m) (.int k n) (.int k r) := fun _ _ _ => by subst h; simp [eqGuard, binOp, Op.intArith]
theorem br_mul {r : Int} (h : k.wrap (m * n) = r) : Bin P .mul t (.int k m) (.int k n) (.int k r) := fun _ _ _ => by subst h; simp [eqGuard, binOp, Op.intArith]
theorem br_lss : Bin P .lss t (.int k m) (.int k n) (.bool (decide (m < n))) := fun _ _ _ => by simp [eqGuard, binOp, Op.intCmp]
theorem br_leq : Bin P .leq t (.int k m) (.int k n) (.bool (decide (m ≤ n))) := fun _ _ _ => by simp [eqGuard, binOp, Op.intCmp]
theorem br_gtr : Bin P .gtr t (.int k m) (.int k n) (.bool (decide (n < m))) := fun _ _ _ => by simp [eqGuard, binOp, Op.intCmp]
theorem br_geq : Bin P .geq t (.int k m) (.int k n) (.bool (decide (n ≤ m))) := fun _ _ _ => by simp [eqGuard, binOp, Op.intCmp]
theorem br_eql : Bin P .eql t (.int k m) (.int k n) (.bool (decide (m = n))) := fun _ _ _ => by simp [eqGuard, binOp, Op.intCmp]; rfl
theorem br_neq : Bin P .neq t (.int k m) (.int k n) (.bool (decide (m ≠ n))) := fun _ _ _ => by simp [eqGuard, binOp, Op.intCmp, bne]; rfl
theorem br_quo (h0 : 0 ≤ m) (h1 : 1 ≤ n) (h2 : m ≤ k.max) : Bin P .quo t (.int k m) (.int k n) (.int k (m / n)) := fun _ _ w => by
  have hn : ¬ n = 0 := by omega
  have hq : m.tdiv n = m / n := Int.tdiv_eq_ediv_of_nonneg h0
  have h3 : 0 ≤ m / n := Int.ediv_nonneg h0 (by omega)
  have h4 : m / n ≤ m := Int.ediv_le_self n h0
  have hm : k.min ≤ 0 := by cases k <;> decide
  simp [eqGuard, binOp, Op.intDiv, hn, hq, wrap_of (k := k) (n := m / n) (by omega) (by omega)]
theorem br_rem (h0 : 0 ≤ m) (h1 : 1 ≤ n) : Bin P .rem t (.int k m) (.int k n) (.int k (m % n)) := fun _ _ w => by
  have hn : ¬ n = 0 := by omega
  have hq : m.tmod n = m % n := Int.tmod_eq_emod_of_nonneg h0
  simp [eqGuard, binOp, Op.intDiv, hn, hq]
theorem br_shl {yk : IntKind} {r : Int} {j : Nat} (hj : Nat.ble j k.bits = true) (h : k.wrap (m * 2 ^ j) = r) : Bin P .shl t (.int k m) (.int yk (j : Int)) (.int k r) := fun _ _ w => by
  have hj' : j ≤ k.bits := by simpa using hj
  have h0 : ¬ ((j : Int) < 0) := by omega
  subst h
  simp [eqGuard, binOp, Op.shift, h0, Nat.min_eq_left hj']
theorem br_shr {yk : IntKind} {j : Nat} (hj : Nat.ble j k.bits = true) : Bin P .shr t (.int k m) (.int yk (j : Int)) (.int k (m / 2 ^ j)) := fun _ _ w => by
  have hj' : j ≤ k.bits := by simpa using hj
  have h0 : ¬ ((j : Int) < 0) := by omega
  simp [eqGuard, binOp, Op.shift, h0, Nat.min_eq_left hj', Int.fdiv_eq_ediv_of_nonneg]
  exact Int.fdiv_eq_ediv_of_nonneg _ (by exact Int.le_of_lt (Int.pow_pos (by decide)))
theorem br_and {m n : Nat} (h1 : (m : Int) ≤ k.max) (h2 : (n : Int) ≤ k.max) : Bin P .and t (.int k m) (.int k n) (.int k ((m &&& n : Nat) : Int)) := fun _ _ w => by
  have hb : ∀ j : Nat, (j : Int) ≤ k.max → j < 2 ^ k.bits := fun j hj => by cases k <;> simp [IntKind.max, IntKind.signed, IntKind.bits] at hj ⊢ <;> omega
  have e : ∀ j : Nat, BitVec.ofInt k.bits (j : Int) = BitVec.ofNat k.bits j := fun j => by simp
  have hm := hb m h1
  have hle : m &&& n ≤ m := Nat.and_le_left
  have hm0 : k.min ≤ 0 := by cases k <;> decide
  simp only [eqGuard, binOp, Op.intBits, e]
  simp [BitVec.toNat_and, BitVec.toNat_ofNat, Nat.mod_eq_of_lt hm, Nat.mod_eq_of_lt (hb n h2)]
  exact wrap_of (by omega) (by omega)
theorem br_mask {m : Int} {p : Nat} (hp : Nat.ble (p + (bif k.signed then 1 else 0)) k.bits = true) : Bin P .and t (.int k m) (.int k ((2 ^ p - 1 : Nat) : Int)) (.int k (m % (2 ^ p : Nat))) := fun _ _ w => by
  have hp' : p + (bif k.signed then 1 else 0) ≤ k.bits := by simpa using hp
  have hpb : p ≤ k.bits := by omega
  have hlt : 2 ^ p ≤ 2 ^ k.bits := Nat.pow_le_pow_right (by decide) hpb
  have hpos : 0 < 2 ^ p := Nat.pow_pos (by decide)
  have e1 : (BitVec.ofInt k.bits ((2 ^ p - 1 : Nat) : Int)).toNat = 2 ^ p - 1 := by
    rw [show BitVec.ofInt k.bits ((2 ^ p - 1 : Nat) : Int) = BitVec.ofNat k.bits (2 ^ p - 1) from BitVec.ofInt_natCast _ _, BitVec.toNat_ofNat, Nat.mod_eq_of_lt (by omega)]
  have e2 : ((BitVec.ofInt k.bits m).toNat : Int) = m % (2 ^ k.bits : Nat) := by
    rw [BitVec.toNat_ofInt]
    exact Int.toNat_of_nonneg (Int.emod_nonneg _ (by have : 0 < 2 ^ k.bits := Nat.pow_pos (by decide); omega))
  have e3 : (((BitVec.ofInt k.bits m &&& BitVec.ofInt k.bits ((2 ^ p - 1 : Nat) : Int)).toNat : Nat) : Int) = m % (2 ^ p : Nat) := by
    rw [BitVec.toNat_and, e1, Nat.and_two_pow_sub_one_eq_mod, Int.natCast_emod, e2]
    exact Int.emod_emod_of_dvd _ (by exact_mod_cast Nat.pow_dvd_pow 2 hpb)
  have h0 : 0 ≤ m % ((2 ^ p : Nat) : Int) := Int.emod_nonneg _ (by omega)
  have h1 : m % ((2 ^ p : Nat) : Int) < ((2 ^ p : Nat) : Int) := Int.emod_lt_of_pos _ (by omega)
  have h2 : ((2 ^ p : Nat) : Int) ≤ k.max + 1 := by
    have hq : ∀ q : Nat, p ≤ q → ((2 ^ p : Nat) : Int) ≤ ((2 ^ q : Nat) : Int) := fun q h => by
      have := Nat.pow_le_pow_right (n := 2) (by decide) h
      omega
    cases k with
    | i8 => exact hq 7 (by simp [IntKind.signed, IntKind.bits] at hp'; omega)
    | i16 => exact hq 15 (by simp [IntKind.signed, IntKind.bits] at hp'; omega)
    | i32 => exact hq 31 (by simp [IntKind.signed, IntKind.bits] at hp'; omega)
    | i64 => exact hq 63 (by simp [IntKind.signed, IntKind.bits] at hp'; omega)
    | u8 => exact hq 8 (by simp [IntKind.signed, IntKind.bits] at hp'; omega)
    | u16 => exact hq 16 (by simp [IntKind.signed, IntKind.bits] at hp'; omega)
    | u32 => exact hq 32 (by simp [IntKind.signed, IntKind.bits] at hp'; omega)
    | u64 => exact hq 64 (by simp [IntKind.signed, IntKind.bits] at hp'; omega)
  have hm0 : k.min ≤ 0 := by cases k <;> decide
  have hr : Op.intBits .and k m ((2 ^ p - 1 : Nat) : Int) = (pure (.int k (k.wrap (((BitVec.ofInt k.bits m &&& BitVec.ofInt k.bits ((2 ^ p - 1 : Nat) : Int)).toNat : Nat) : Int))) : Sem Value) := rfl
  rw [e3, wrap_of (by omega) (by omega)] at hr
  simp only [eqGuard, binOp, hr]
  simp
theorem br_or {m n : Nat} (h1 : (m : Int) ≤ k.max) (h2 : (n : Int) ≤ k.max) : Bin P .or t (.int k m) (.int k n) (.int k ((m ||| n : Nat) : Int)) := fun _ _ w => by
  have hb : ∀ j : Nat, (j : Int) ≤ k.max → j < 2 ^ k.bits := fun j hj => by cases k <;> simp [IntKind.max, IntKind.signed, IntKind.bits] at hj ⊢ <;> omega
  have e : ∀ j : Nat, BitVec.ofInt k.bits (j : Int) = BitVec.ofNat k.bits j := fun j => by simp
  have hp : ∃ q : Nat, k.max = (2 ^ q : Nat) - 1 := by cases k <;> first | exact ⟨7, by decide⟩ | exact ⟨15, by decide⟩ | exact ⟨31, by decide⟩ | exact ⟨63, by decide⟩ | exact ⟨8, by decide⟩ | exact ⟨16, by decide⟩ | exact ⟨32, by decide⟩ | exact ⟨64, by decide⟩
  obtain ⟨q, hq⟩ := hp
  have hor : m ||| n < 2 ^ q := Nat.or_lt_two_pow (by omega) (by omega)
  have hm0 : k.min ≤ 0 := by cases k <;> decide
  simp only [eqGuard, binOp, Op.intBits, e]
  simp [BitVec.toNat_or, BitVec.toNat_ofNat, Nat.mod_eq_of_lt (hb m h1), Nat.mod_eq_of_lt (hb n h2)]
  exact wrap_of (by omega) (by omega)
theorem br_orS {m n : Int} (p q : Nat) (h0 : 0 ≤ m) (h1 : m < (2 ^ p : Nat)) (hn : n = (q : Int) * (2 ^ p : Nat)) (hb : m + n ≤ k.max) : Bin P .or t (.int k m) (.int k n) (.int k (m + n)) := by
  obtain ⟨a, rfl⟩ : ∃ a : Nat, m = (a : Int) := ⟨m.toNat, (Int.toNat_of_nonneg h0).symm⟩
  have hn' : n = ((q * 2 ^ p : Nat) : Int) := by rw [hn]; simp
  subst hn'
  have ha : a < 2 ^ p := by omega
  have e : a + q * 2 ^ p = a ||| q * 2 ^ p := by
    rw [Nat.add_comm, Nat.or_comm, Nat.mul_comm]
    exact Nat.two_pow_add_eq_or_of_lt ha q
  have := br_or (P := P) (t := t) (k := k) (m := a) (n := q * 2 ^ p) (by omega) (by omega)
  rw [← e] at this
  rw [← Int.natCast_add]
  exact this
theorem br_orS' {m n : Int} (p q : Nat) (h0 : 0 ≤ m) (h1 : m < (2 ^ p : Nat)) (hn : n = (q : Int) * (2 ^ p : Nat)) (hb : n + m ≤ k.max) : Bin P .or t (.int k n) (.int k m) (.int k (n + m)) := by
  obtain ⟨a, rfl⟩ : ∃ a : Nat, m = (a : Int) := ⟨m.toNat, (Int.toNat_of_nonneg h0).symm⟩
  have hn' : n = ((q * 2 ^ p : Nat) : Int) := by rw [hn]; simp
  subst hn'
  have ha : a < 2 ^ p := by omega
  have e : q * 2 ^ p + a = q * 2 ^ p ||| a := by
    rw [Nat.mul_comm]
    exact Nat.two_pow_add_eq_or_of_lt ha q
  have := br_or (P := P) (t := t) (k := k) (m := q * 2 ^ p) (n := a) (by omega) (by omega)
  rw [← e] at this
  rw [← Int.natCast_add]
  exact this
theorem br_xor {m n : Nat} (h1 : (m : Int) ≤ k.max) (h2 : (n : Int) ≤ k.max) : Bin P .xor t (.int k m) (.int k n) (.int k ((m ^^^ n : Nat) : Int)) := fun _ _ w => by
  have hb : ∀ j : Nat, (j : Int) ≤ k.max → j < 2 ^ k.bits := fun j hj => by cases k <;> simp [IntKind.max, IntKind.signed, IntKind.bits] at hj ⊢ <;> omega
  have e : ∀ j : Nat, BitVec.ofInt k.bits (j : Int) = BitVec.ofNat k.bits j := fun j => by simp
  have hp : ∃ q : Nat, k.max = (2 ^ q : Nat) - 1 := by cases k <;> first | exact ⟨7, by decide⟩ | exact ⟨15, by decide⟩ | exact ⟨31, by decide⟩ | exact ⟨63, by decide⟩ | exact ⟨8, by decide⟩ | exact ⟨16, by decide⟩ | exact ⟨32, by decide⟩ | exact ⟨64, by decide⟩
  obtain ⟨q, hq⟩ := hp
  have hor : m ^^^ n < 2 ^ q := Nat.xor_lt_two_pow (by omega) (by omega)
  have hm0 : k.min ≤ 0 := by cases k <;> decide
  simp only [eqGuard, binOp, Op.intBits, e]
  simp [BitVec.toNat_xor, BitVec.toNat_ofNat, Nat.mod_eq_of_lt (hb m h1), Nat.mod_eq_of_lt (hb n h2)]
  exact wrap_of (by omega) (by omega)
end
section
variable {l m : List UInt8}
theorem br_sadd (h : Nat.ble (l.length + m.length) 9223372036854775807 = true) : Bin P .add t (str l) (str m) (str (l ++ m)) := fun _ _ w => by
  have h' : ¬ (IntKind.i64.max < (l.length : Int) + (m.length : Int)) := by
    have : l.length + m.length ≤ 9223372036854775807 := by simpa using h
    have e : IntKind.i64.max = 9223372036854775807 := by decide
    rw [e]; omega
  have hs : ∀ l : List UInt8, (ByteArray.mk l.toArray).size = l.length := fun l => by simp [ByteArray.size]
  have he : IntKind.i64.max = 9223372036854775807 := by decide
  rw [he] at h'
  simp only [eqGuard, binOp, Op.stringOp, hs]
  simp [h', he]
  apply ByteArray.ext
  simp
theorem bytes_toList (l : List UInt8) : (ByteArray.mk l.toArray).toList = l := by
  have key : ∀ (k : Nat) (i : Nat) (r : List UInt8), l.length - i = k → ByteArray.toList.loop ⟨l.toArray⟩ i r = r.reverse ++ l.drop i := by
    intro k
    induction k with
    | zero =>
      intro i r h
      unfold ByteArray.toList.loop
      have : ¬ i < (ByteArray.mk l.toArray).size := by simp [ByteArray.size]; omega
      rw [if_neg this, List.drop_eq_nil_of_le (by omega)]; simp
    | succ k ih =>
      intro i r h
      unfold ByteArray.toList.loop
      have hlt : i < l.length := by omega
      have : i < (ByteArray.mk l.toArray).size := by simpa [ByteArray.size] using hlt
      rw [if_pos this, ih (i + 1) _ (by omega), List.drop_eq_getElem_cons hlt]
      simp [ByteArray.get!, hlt]
  unfold ByteArray.toList
  rw [key _ 0 [] rfl]; simp
theorem lbeq (l m : List UInt8) : (l == m) = decide (l = m) := by rw [Bool.eq_iff_iff]; simp
theorem br_seql : Bin P .eql t (str l) (str m) (.bool (decide (l = m))) := fun _ _ w => by
  simp [eqGuard, binOp, Op.stringOp, bytes_toList, lbeq]
theorem br_sneq : Bin P .neq t (str l) (str m) (.bool (decide (l ≠ m))) := fun _ _ w => by
  simp [eqGuard, binOp, Op.stringOp, bytes_toList, lbeq]
end
end
end Go.Sl

namespace Go.Kv
open Go.Tr
theorem signI_cases (m : Int) : (m < 0 ∧ signI m = -1) ∨ (m = 0 ∧ signI m = 0) ∨ (0 < m ∧ signI m = 1) := by
  unfold signI
  split
  · exact .inl ⟨by assumption, rfl⟩
  · split
    · exact .inr (.inr ⟨by assumption, rfl⟩)
    · exact .inr (.inl ⟨by omega, rfl⟩)
theorem numK_neg {m e : Int} (h : m < 0) : numK m e = digK true (Go.Lib.decDigits (sizeN m)) e := by
  unfold numK; rw [if_neg (by omega), decide_eq_true h]
theorem numK_pos {m e : Int} (h : 0 < m) : numK m e = digK false (Go.Lib.decDigits (sizeN m)) e := by
  unfold numK; rw [if_neg (by omega), decide_eq_false (by omega)]
theorem digK_head (neg : Bool) (d : Bs) (e : Int) : ∃ r, digK neg d e = (if neg then 1 else 3) :: r := ⟨_, rfl⟩
theorem num_dec {m e m' e' : Int} (h : okN m e) (h' : okN m' e') : Dec (cmpN m e m' e') (numK m e) (numK m' e') ∧ (cmpN m e m' e' = 0 → m = m' ∧ e = e') := by
  obtain ⟨z1, o1⟩ := h
  obtain ⟨z2, o2⟩ := h'
  unfold cmpN
  dsimp only []
  rcases signI_cases m with ⟨s1, g1⟩ | ⟨s1, g1⟩ | ⟨s1, g1⟩ <;> rcases signI_cases m' with ⟨s2, g2⟩ | ⟨s2, g2⟩ | ⟨s2, g2⟩ <;> rw [g1, g2]
  · rw [if_neg (by decide), numK_neg s1, numK_neg s2]
    obtain ⟨b1, b2, b3⟩ := o1 (by omega)
    obtain ⟨c1, c2, c3⟩ := o2 (by omega)
    refine ⟨?_, fun hz => ?_⟩
    · have := digK_dec (neg := true) (dec_len b1) b3 (dec_len c1) c3 (digit_of _) (digit_of _)
      by_cases hp : ((Go.Lib.decDigits (sizeN m)).length : Int) + e ≠ ((Go.Lib.decDigits (sizeN m')).length : Int) + e'
      · rw [if_pos hp] at this ⊢; exact this
      · rw [if_neg hp] at this ⊢; exact this
    · by_cases hp : ((Go.Lib.decDigits (sizeN m)).length : Int) + e ≠ ((Go.Lib.decDigits (sizeN m')).length : Int) + e'
      · rw [if_pos hp] at hz
        rcases cmpI_cases (((Go.Lib.decDigits (sizeN m)).length : Int) + e) (((Go.Lib.decDigits (sizeN m')).length : Int) + e') with ⟨q, _⟩ | ⟨q, _⟩ | ⟨q, h⟩
        · rw [q] at hz; cases hz
        · rw [q] at hz; cases hz
        · exact absurd h hp
      · rw [if_neg hp] at hz
        rcases cmpB_cases (Go.Lib.decDigits (sizeN m)) (Go.Lib.decDigits (sizeN m')) with ⟨q, _⟩ | ⟨q, _⟩ | ⟨q, h⟩
        · rw [q] at hz; cases hz
        · rw [q] at hz; cases hz
        · have hm := dec_inj h
          unfold sizeN at hm
          rw [h] at hp
          exact ⟨by omega, by omega⟩
  · rw [if_pos (.inl (by decide)), numK_neg s1, s2, numK, if_pos rfl]
    obtain ⟨r, hr⟩ := digK_head true (Go.Lib.decDigits (sizeN m)) e
    rw [hr]
    exact ⟨Dec.byte _ _ (fun _ => by decide) (fun h => by simp [cmpI] at h), fun h => by simp [cmpI] at h⟩
  · rw [if_pos (.inl (by decide)), numK_neg s1, numK_pos s2]
    obtain ⟨r, hr⟩ := digK_head true (Go.Lib.decDigits (sizeN m)) e
    obtain ⟨r2, hr2⟩ := digK_head false (Go.Lib.decDigits (sizeN m')) e'
    rw [hr, hr2]
    exact ⟨Dec.byte _ _ (fun _ => by decide) (fun h => by simp [cmpI] at h), fun h => by simp [cmpI] at h⟩
  · rw [if_pos (.inl (by decide)), numK_neg s2, s1, numK, if_pos rfl]
    obtain ⟨r, hr⟩ := digK_head true (Go.Lib.decDigits (sizeN m')) e'
    rw [hr]
    exact ⟨Dec.byte _ _ (fun h => by simp [cmpI] at h) (fun _ => by decide), fun h => by simp [cmpI] at h⟩
  · rw [if_pos (.inr rfl)]
    subst s1; subst s2
    rw [z1 rfl, z2 rfl]
    exact ⟨Dec.zero _ _, fun _ => ⟨rfl, rfl⟩⟩
  · rw [if_pos (.inl (by decide)), numK_pos s2, s1, numK, if_pos rfl]
    obtain ⟨r, hr⟩ := digK_head false (Go.Lib.decDigits (sizeN m')) e'
    rw [hr]
    exact ⟨Dec.byte _ _ (fun _ => by decide) (fun h => by simp [cmpI] at h), fun h => by simp [cmpI] at h⟩
  · rw [if_pos (.inl (by decide)), numK_pos s1, numK_neg s2]
    obtain ⟨r, hr⟩ := digK_head false (Go.Lib.decDigits (sizeN m)) e
    obtain ⟨r2, hr2⟩ := digK_head true (Go.Lib.decDigits (sizeN m')) e'
    rw [hr, hr2]
    exact ⟨Dec.byte _ _ (fun h => by simp [cmpI] at h) (fun _ => by decide), fun h => by simp [cmpI] at h⟩
  · rw [if_pos (.inl (by decide)), numK_pos s1, s2, numK, if_pos rfl]
    obtain ⟨r, hr⟩ := digK_head false (Go.Lib.decDigits (sizeN m)) e
    rw [hr]
    exact ⟨Dec.byte _ _ (fun h => by simp [cmpI] at h) (fun _ => by decide), fun h => by simp [cmpI] at h⟩
  · rw [if_neg (by decide), numK_pos s1, numK_pos s2]
    obtain ⟨b1, b2, b3⟩ := o1 (by omega)
    obtain ⟨c1, c2, c3⟩ := o2 (by omega)
    refine ⟨?_, fun hz => ?_⟩
    · have := digK_dec (neg := false) (dec_len b1) b3 (dec_len c1) c3 (digit_of _) (digit_of _)
      by_cases hp : ((Go.Lib.decDigits (sizeN m)).length : Int) + e ≠ ((Go.Lib.decDigits (sizeN m')).length : Int) + e'
      · rw [if_pos hp] at this ⊢; exact this
      · rw [if_neg hp] at this ⊢; exact this
    · by_cases hp : ((Go.Lib.decDigits (sizeN m)).length : Int) + e ≠ ((Go.Lib.decDigits (sizeN m')).length : Int) + e'
      · rw [if_pos hp] at hz
        rcases cmpI_cases (((Go.Lib.decDigits (sizeN m)).length : Int) + e) (((Go.Lib.decDigits (sizeN m')).length : Int) + e') with ⟨q, _⟩ | ⟨q, _⟩ | ⟨q, h⟩
        · rw [q] at hz; cases hz
        · rw [q] at hz; cases hz
        · exact absurd h hp
      · rw [if_neg hp] at hz
        rcases cmpB_cases (Go.Lib.decDigits (sizeN m)) (Go.Lib.decDigits (sizeN m')) with ⟨q, _⟩ | ⟨q, _⟩ | ⟨q, h⟩
        · rw [q] at hz; cases hz
        · rw [q] at hz; cases hz
        · have hm := dec_inj h
          unfold sizeN at hm
          rw [h] at hp
          exact ⟨by omega, by omega⟩
theorem kindB_lt {k k' : Int} (h0 : 0 ≤ k) (h1 : k ≤ 6) (h0' : 0 ≤ k') (h1' : k' ≤ 6) (h : k < k') : (kindB k).toNat < (kindB k').toNat := by
  unfold kindB
  rw [nat_of_u8 (by omega), nat_of_u8 (by omega)]; omega
theorem kindB_pos {k : Int} (h0 : 0 ≤ k) (h1 : k ≤ 6) : 0 < (kindB k).toNat := by
  unfold kindB
  rw [nat_of_u8 (by omega)]; omega
theorem put_head {v : V} (h : okV v) : ∃ b r, putV v = b :: r ∧ 0 < b.toNat := by
  obtain ⟨k, m, e, t, l, ks⟩ := v
  have hk : 0 ≤ k ∧ k ≤ 6 := h.1
  exact ⟨_, _, rfl, kindB_pos hk.1 hk.2⟩
theorem cmpV_mk {k m e k' m' e' : Int} {t t' : Bs} {l l' : List V} {ks ks' : List Bs} : cmpV (.mk k m e t l ks) (.mk k' m' e' t' l' ks') =
    if k ≠ k' then cmpI k k' else if k = 3 then cmpN m e m' e' else if k = 4 then cmpB t t' else if k = 6 ∧ cmpK ks ks' ≠ 0 then cmpK ks ks' else cmpL l l' := by
  rw [cmpV]; rfl
theorem cmpL_ne (a : V) (l : List V) : cmpL (a :: l) [] = 1 := by rw [cmpL]
theorem cmpL_en (b : V) (m : List V) : cmpL [] (b :: m) = -1 := by rw [cmpL]
theorem cmpL_cc (a b : V) (l m : List V) : cmpL (a :: l) (b :: m) = if cmpV a b ≠ 0 then cmpV a b else cmpL l m := by rw [cmpL]
theorem putL_c (a : V) (l : List V) : putL (a :: l) = putV a ++ putL l := by rw [putL]
theorem putL_n : putL [] = [] := by rw [putL]
mutual
theorem put_dec : ∀ (a b : V), okV a → okV b → Dec (cmpV a b) (putV a) (putV b) ∧ (cmpV a b = 0 → a = b)
  | .mk k m e t l ks, .mk k' m' e' t' l' ks', ha, hb => by
    obtain ⟨⟨k1, k2⟩, n1, t1, l1, y1, N1, q1, L1⟩ := ha
    obtain ⟨⟨k1', k2'⟩, n1', t1', l1', y1', N1', q1', L1'⟩ := hb
    rw [cmpV_mk, putV, putV]
    by_cases hk : k = k'
    · subst hk
      rw [if_neg (by simp)]
      by_cases h3 : k = 3
      · rw [if_pos h3, if_pos h3, if_pos h3]
        obtain ⟨d1, d2⟩ := num_dec N1 N1'
        refine ⟨d1.pre [_], fun hz => ?_⟩
        obtain ⟨rfl, rfl⟩ := d2 hz
        rw [t1 (by omega), t1' (by omega), l1 (by omega), l1' (by omega), y1 (by omega), y1' (by omega)]
      · rw [if_neg h3, if_neg h3, if_neg h3]
        obtain ⟨rfl, rfl⟩ := n1 h3
        obtain ⟨rfl, rfl⟩ := n1' h3
        by_cases h4 : k = 4
        · rw [if_pos h4, if_pos h4, if_pos h4]
          refine ⟨(text_dec t t').pre [_], fun hz => ?_⟩
          rcases cmpB_cases t t' with ⟨q, _⟩ | ⟨q, _⟩ | ⟨_, rfl⟩
          · rw [q] at hz; cases hz
          · rw [q] at hz; cases hz
          · rw [l1 (by omega), l1' (by omega), y1 (by omega), y1' (by omega)]
        · rw [if_neg h4, if_neg h4, if_neg h4]
          obtain rfl := t1 h4
          obtain rfl := t1' h4
          by_cases h6 : k = 6
          · rw [if_pos h6, if_pos h6, if_neg (show ¬ k = 5 by omega), List.append_nil, List.append_nil]
            by_cases hq : cmpK ks ks' = 0
            · rw [if_neg (by simp [hq])]
              obtain rfl := cmpK_zero hq
              obtain ⟨d1, d2⟩ := putL_same l l' L1 L1' (by rw [← q1 h6, ← q1' h6])
              exact ⟨(d1.pre _).pre [_], fun hz => by rw [d2 hz]⟩
            · rw [if_pos ⟨h6, hq⟩]
              exact ⟨((keys_dec ks ks').app _ _).pre [_], fun hz => absurd hz hq⟩
          · rw [if_neg h6, if_neg h6, if_neg (fun h => h6 h.1), List.nil_append, List.nil_append]
            obtain rfl := y1 h6
            obtain rfl := y1' h6
            by_cases h5 : k = 5
            · rw [if_pos h5]
              obtain ⟨d1, d2⟩ := putL_term l l' L1 L1'
              exact ⟨d1.pre [_], fun hz => by rw [d2 hz]⟩
            · rw [if_neg h5, l1 (by omega), l1' (by omega)]
              exact ⟨Dec.zero _ _, fun _ => rfl⟩
    · rw [if_pos hk]
      rcases cmpI_cases k k' with ⟨q, h⟩ | ⟨q, h⟩ | ⟨q, h⟩
      · rw [q]
        exact ⟨Dec.byte _ _ (fun _ => kindB_lt k1 k2 k1' k2' h) (fun h => by omega), fun h => by omega⟩
      · rw [q]
        exact ⟨Dec.byte _ _ (fun h => by omega) (fun _ => kindB_lt k1' k2' k1 k2 h), fun h => by omega⟩
      · exact absurd h hk
theorem putL_term : ∀ (l m : List V), okL l → okL m → Dec (cmpL l m) (putL l ++ [0]) (putL m ++ [0]) ∧ (cmpL l m = 0 → l = m)
  | [], [], _, _ => ⟨Dec.zero _ _, fun _ => rfl⟩
  | [], b :: m, _, hb => by
    obtain ⟨c, r, hr, hc⟩ := put_head hb.1
    rw [cmpL_en, putL_c, putL_n, hr]
    exact ⟨Dec.byte _ _ (fun _ => hc) (fun h => by omega), fun h => by omega⟩
  | a :: l, [], ha, _ => by
    obtain ⟨c, r, hr, hc⟩ := put_head ha.1
    rw [cmpL_ne, putL_c, putL_n, hr]
    exact ⟨Dec.byte _ _ (fun h => by omega) (fun _ => hc), fun h => by omega⟩
  | a :: l, b :: m, ha, hb => by
    obtain ⟨d1, d2⟩ := put_dec a b ha.1 hb.1
    rw [cmpL_cc, putL_c, putL_c]
    by_cases hz : cmpV a b = 0
    · rw [if_neg (by simpa using hz)]
      obtain rfl := d2 hz
      obtain ⟨d3, d4⟩ := putL_term l m ha.2 hb.2
      rw [List.append_assoc, List.append_assoc]
      exact ⟨d3.pre _, fun h => by rw [d4 h]⟩
    · rw [if_pos hz, List.append_assoc, List.append_assoc]
      exact ⟨d1.app _ _, fun h => absurd h hz⟩
theorem putL_same : ∀ (l m : List V), okL l → okL m → l.length = m.length → Dec (cmpL l m) (putL l) (putL m) ∧ (cmpL l m = 0 → l = m)
  | [], [], _, _, _ => ⟨Dec.zero _ _, fun _ => rfl⟩
  | [], b :: m, _, _, h => by simp at h
  | a :: l, [], _, _, h => by simp at h
  | a :: l, b :: m, ha, hb, hl => by
    obtain ⟨d1, d2⟩ := put_dec a b ha.1 hb.1
    rw [cmpL_cc, putL_c, putL_c]
    by_cases hz : cmpV a b = 0
    · rw [if_neg (by simpa using hz)]
      obtain rfl := d2 hz
      obtain ⟨d3, d4⟩ := putL_same l m ha.2 hb.2 (by simpa using hl)
      exact ⟨d3.pre _, fun h => by rw [d4 h]⟩
    · rw [if_pos hz]
      exact ⟨d1.app _ _, fun h => absurd h hz⟩
end
theorem cmp_lt {a b : V} (ha : okV a) (hb : okV b) (h : cmpV a b < 0) : ltB (putV a) (putV b) = true := by
  have := (put_dec a b ha hb).1.1 h [] []
  rwa [List.append_nil, List.append_nil] at this
theorem cmp_gt {a b : V} (ha : okV a) (hb : okV b) (h : 0 < cmpV a b) : ltB (putV b) (putV a) = true := by
  have := (put_dec a b ha hb).1.2 h [] []
  rwa [List.append_nil, List.append_nil] at this
end Go.Kv

namespace Go.Pa
open Go.Tr
def pg (k : Nat) (b : Bs) : PA := fun h => h k = some b
def fct (p : Prop) : PA := fun _ => p
def sx {α : Type} (A : α → PA) : PA := fun h => ∃ x, A x h
def sta (l : List PA) : PA := Al l
section
variable {l m : List PA} {A B : PA} {h h' : Ph} {k : Nat} {b b0 : Bs}
theorem Al.fct_iff {p : Prop} : Al (fct p :: l) h ↔ p ∧ Al l h :=
  ⟨fun a => ⟨by obtain ⟨_, _, _, _, _, hp, _⟩ := a; exact hp, a.tail⟩, fun a => ⟨fun _ => none, h, fun _ => .inl rfl, fun _ _ e => (by cases e), Ph.le_refl _, a.1, a.2⟩⟩
theorem Al.sx_iff {α : Type} {A : α → PA} : Al (sx A :: l) h ↔ ∃ x, Al (A x :: l) h :=
  ⟨fun ⟨h1, h2, a, b, c, ⟨x, hx⟩, d⟩ => ⟨x, h1, h2, a, b, c, hx, d⟩, fun ⟨x, h1, h2, a, b, c, hx, d⟩ => ⟨h1, h2, a, b, c, ⟨x, hx⟩, d⟩⟩
theorem Al.sta_iff : Al (sta l :: m) h ↔ Al (l ++ m) h := (Al.append_iff (l := l) (m := m)).symm
theorem Al.pg_get (a : Al (pg k b :: l) h) : h k = some b := by
  obtain ⟨h1, h2, _, l1, _, hp, _⟩ := a
  exact l1 k b hp
theorem Al.pg_set (a : Al (pg k b0 :: l) h) (hs : ∀ j, j ≠ k → h' j = h j) (hk : h' k = some b) : Al (pg k b :: l) h' := by
  obtain ⟨h1, h2, ap, l1, l2, hp, hl⟩ := a
  have hp : h1 k = some b0 := hp
  have h2k : h2 k = none := by
    rcases ap k with e | e
    · rw [hp] at e; cases e
    · exact e
  refine ⟨fun j => if j = k then some b else none, h2, fun j => ?_, fun j o e => ?_, fun j o e => ?_, by simp [pg], hl⟩
  · by_cases hj : j = k
    · subst hj; exact .inr h2k
    · exact .inl (if_neg hj)
  · by_cases hj : j = k
    · subst hj; simp at e; subst e; exact hk
    · simp [hj] at e
  · by_cases hj : j = k
    · subst hj; rw [h2k] at e; cases e
    · rw [hs j hj]; exact l2 j o e
theorem Al.pg_drop (a : Al (pg k b0 :: l) h) (hs : ∀ j, j ≠ k → h' j = h j) : Al l h' := by
  obtain ⟨h1, h2, ap, l1, l2, hp, hl⟩ := a
  have hp : h1 k = some b0 := hp
  have h2k : h2 k = none := by
    rcases ap k with e | e
    · rw [hp] at e; cases e
    · exact e
  refine hl.mono fun j o e => ?_
  by_cases hj : j = k
  · subst hj; rw [h2k] at e; cases e
  · rw [hs j hj]; exact l2 j o e
theorem Al.pg_new (a : Al l h) (h0 : h k = none) (hs : ∀ j, j ≠ k → h' j = h j) (hk : h' k = some b) : Al (pg k b :: l) h' := by
  refine ⟨fun j => if j = k then some b else none, h, fun j => ?_, fun j o e => ?_, fun j o e => ?_, by simp [pg], a⟩
  · by_cases hj : j = k
    · subst hj; exact .inr h0
    · exact .inl (if_neg hj)
  · by_cases hj : j = k
    · subst hj; simp at e; subst e; exact hk
    · simp [hj] at e
  · by_cases hj : j = k
    · subst hj; rw [h0] at e; cases e
    · rw [hs j hj]; exact e
theorem Al.swap_app {l m : List PA} (a : Al (l ++ m) h) : Al (m ++ l) h := by
  obtain ⟨h1, h2, ap, l1, l2, ha, hb⟩ := Al.append_iff.1 a
  exact Al.append_iff.2 ⟨h2, h1, Ph.apart_symm ap, l2, l1, hb, ha⟩
def dropO : Nat → List PA → Option (List PA)
  | 0, l => some l
  | _ + 1, [] => some []
  | n + 1, _ :: l => dropO n l
def pickD (l : List PA) (n : Nat) : List Nat → Option (List PA)
  | [] => dropO n l
  | i :: is => match l[i]?, pickD l n is with
    | some A, some r => some (A :: r)
    | _, _ => none
theorem dropO_eq : ∀ (n : Nat) (l : List PA), dropO n l = some (l.drop n)
  | 0, _ => rfl
  | _ + 1, [] => rfl
  | n + 1, _ :: l => dropO_eq n l
theorem pickD_eq (l : List PA) (n : Nat) : ∀ (is : List Nat) (r : List PA), (is.all fun i => Nat.blt i n) = true → pickD l n is = some r → ∃ r', pickAt (l.take n) is = some r' ∧ r = r' ++ l.drop n
  | [], r, _, h => ⟨[], rfl, by simp only [pickD, dropO_eq, Option.some.injEq] at h; simp [← h]⟩
  | i :: is, r, hb, h => by
    simp only [List.all_cons, Bool.and_eq_true, Nat.blt_eq] at hb
    simp only [pickD] at h
    split at h
    · rename_i A r2 h1 h2
      cases h
      obtain ⟨r', h3, rfl⟩ := pickD_eq l n is r2 hb.2 h2
      exact ⟨A :: r', by simp only [pickAt, List.getElem?_take, if_pos hb.1, h1, h3], rfl⟩
    · cases h
theorem Al.pickF (n : Nat) (is : List Nat) {r : List PA} (hd : (distinct is && is.all fun i => Nat.blt i n) = true) (hr : pickD l n is = some r) (a : Al l h) : Al r h := by
  simp only [Bool.and_eq_true] at hd
  obtain ⟨r', h1, rfl⟩ := pickD_eq l n is r hd.2 hr
  rw [← List.take_append_drop n l] at a
  obtain ⟨h2, h3, ap, l1, l2, ha, hb⟩ := Al.append_iff.1 a
  exact Al.append_iff.2 ⟨h2, h3, ap, l1, l2, ha.pick_ is _ hd.1 h1, hb⟩
end

section
variable {E : En} {KK : List Nat} {s s' : St} {k : Nat} {b b0 : Bs} {F : List PA} {α β : Type}
def rd (E : En) (s : St) : Ph := fun k => if s.kind E k = some 1 then some (s.by_ k) else if s.kind E k = some 2 then some (E.sec k) else none
def Kst (K L : List Nat) : Prop := L.length = K.length ∧ ∀ (i c : Nat), K[i]? = some c → ∃ c', L[i]? = some c' ∧ (c = 2 → c' = 2 ∨ c' = 3) ∧ (c = 3 → c' = 3) ∧ (c ≤ 1 → c' ≤ 1)
theorem Kst.refl (K : List Nat) : Kst K K := ⟨rfl, fun i c h => ⟨c, h, fun h => .inl h, fun h => h, fun h => h⟩⟩
theorem Kst.set {K L : List Nat} {i c1 c : Nat} (h : Kst K L) (hi : L[i]? = some c1) (hc : c1 ≤ 1 ∧ c ≤ 1 ∨ c1 = 2 ∧ c = 3) : Kst K (L.set i c) := by
  refine ⟨by rw [List.length_set]; exact h.1, fun j d hd => ?_⟩
  obtain ⟨d', h1, h2, h3, h4⟩ := h.2 j d hd
  rw [List.getElem?_set]
  by_cases hij : i = j
  · subst hij
    rw [hi] at h1
    cases h1
    rw [if_pos rfl, if_pos (List.getElem?_eq_some_iff.1 hi).1]
    exact ⟨c, rfl, fun e => by have := h2 e; omega, fun e => by have := h3 e; omega, fun e => by have := h4 e; omega⟩
  · rw [if_neg hij]
    exact ⟨d', h1, h2, h3, h4⟩
def PS (E : En) (KK : List Nat) (F : List PA) (s : St) : Prop := Al F (rd E s) ∧ E.frm + s.kinds.length ≤ 8192 ∧ Kst KK s.kinds
theorem PS.pickF {l r : List PA} (n : Nat) (is : List Nat) (hd : (distinct is && is.all fun i => Nat.blt i n) = true) (hr : pickD l n is = some r) (a : PS E KK l s) : PS E KK r s := ⟨a.1.pickF n is hd hr, a.2⟩
theorem PS.tail {A : PA} (a : PS E KK (A :: F) s) : PS E KK F s := ⟨a.1.tail, a.2⟩
theorem PS.imp {l m : List PA} (a : PS E KK l s) (h : ∀ k, Al l k → Al m k) : PS E KK m s := ⟨h _ a.1, a.2⟩
theorem PS.under {A : PA} {l m : List PA} (a : PS E KK (A :: l) s) (h : ∀ k, Al l k → Al m k) : PS E KK (A :: m) s := ⟨a.1.cons_imp h, a.2⟩
theorem PS.fct_iff {p : Prop} : PS E KK (fct p :: F) s ↔ p ∧ PS E KK F s := ⟨fun a => ⟨(Al.fct_iff.1 a.1).1, (Al.fct_iff.1 a.1).2, a.2⟩, fun a => ⟨Al.fct_iff.2 ⟨a.1, a.2.1⟩, a.2.2⟩⟩
theorem PS.sx_iff {A : α → PA} : PS E KK (sx A :: F) s ↔ ∃ x, PS E KK (A x :: F) s := ⟨fun a => by obtain ⟨x, h⟩ := Al.sx_iff.1 a.1; exact ⟨x, h, a.2⟩, fun ⟨x, a⟩ => ⟨Al.sx_iff.2 ⟨x, a.1⟩, a.2⟩⟩
theorem PS.sta_iff {l : List PA} : PS E KK (sta l :: F) s ↔ PS E KK (l ++ F) s := ⟨fun a => ⟨Al.sta_iff.1 a.1, a.2⟩, fun a => ⟨Al.sta_iff.2 a.1, a.2⟩⟩

def Ok (m : M α) (s : St) (Post : α → St → Prop) : Prop := ∀ a s', m s (.ok a) s' → Post a s'
theorem Ok.pure {a : α} {Post : α → St → Prop} (h : Post a s) : Ok (M.pure a) s Post := by
  rintro a' s' ⟨e, rfl⟩; cases e; exact h
theorem Ok.fail {e : Int} {Post : α → St → Prop} : Ok (M.fail e) s Post := by
  rintro a' s' ⟨h, _⟩; cases h
theorem Ok.bind {m : M α} {f : α → M β} {Post : β → St → Prop} (h : Ok m s fun a s1 => Ok (f a) s1 Post) : Ok (m.bind f) s Post := by
  rintro b s' (⟨e, _, h'⟩ | ⟨a, s1, h1, h2⟩)
  · cases h'
  · exact h a s1 h1 b s' h2
theorem Ok.mono {m : M α} {Post Post' : α → St → Prop} (h : Ok m s Post) (hp : ∀ a s', Post a s' → Post' a s') : Ok m s Post' := fun a s' h1 => hp a s' (h a s' h1)
theorem Ok.ite {p : Prop} [Decidable p] {m m' : M α} {Post : α → St → Prop} (h1 : p → Ok m s Post) (h2 : ¬ p → Ok m' s Post) : Ok (if p then m else m') s Post := by
  by_cases h : p
  · rw [if_pos h]; exact h1 h
  · rw [if_neg h]; exact h2 h
def Gets (E : En) (m : M α) (s : St) (a : α) : Prop := ∀ r s', m s r s' → s' = s ∧ (r = .ok a ∨ (E.down = true ∧ ∃ e, r = .err e))
theorem Gets.ok {m : M α} {a : α} (h : Gets E m s a) {Post : α → St → Prop} (hp : Post a s) : Ok m s Post := fun a' s' h' => by
  obtain ⟨rfl, e | ⟨_, e, he⟩⟩ := h _ _ h'
  · cases e; exact hp
  · cases he
theorem Gets.pure {a : α} : Gets E (M.pure a) s a := by
  rintro r s' ⟨rfl, rfl⟩; exact ⟨rfl, .inl rfl⟩
theorem Gets.bind {m : M α} {f : α → M β} {a : α} {b : β} (h : Gets E m s a) (h2 : Gets E (f a) s b) : Gets E (m.bind f) s b := by
  rintro r s' (⟨e, h', rfl⟩ | ⟨a', s1, h1, h3⟩)
  · obtain ⟨rfl, e' | ⟨hd, _⟩⟩ := h _ _ h'
    · cases e'
    · exact ⟨rfl, .inr ⟨hd, e, rfl⟩⟩
  · obtain ⟨rfl, e' | ⟨_, e, he⟩⟩ := h _ _ h1
    · cases e'; exact h2 r s' h3
    · cases he
theorem Gets.sure {m : M α} {a : α} (h : Gets E m s a) (hd : E.down = false) {r : Res α} {s' : St} (hm : m s r s') : r = .ok a ∧ s' = s := by
  obtain ⟨rfl, e | ⟨h1, _⟩⟩ := h _ _ hm
  · exact ⟨e, rfl⟩
  · rw [hd] at h1; cases h1

theorem rd_some (h : rd E s k = some b) : (s.kind E k = some 1 ∧ s.by_ k = b) ∨ (s.kind E k = some 2 ∧ E.sec k = b) := by
  unfold rd at h
  split at h
  · next h1 => exact .inl ⟨h1, Option.some.inj h⟩
  · split at h
    · next h2 => exact .inr ⟨h2, Option.some.inj h⟩
    · cases h
theorem kind_lt' {c : Nat} (h : s.kind E k = some c) : E.frm ≤ k ∧ k - E.frm < s.kinds.length := by
  unfold St.kind at h
  split at h
  · cases h
  · next hk => exact ⟨by omega, (List.getElem?_eq_some_iff.1 h).1⟩
theorem kind_set' {i c : Nat} {f : Nat → Bs} (hi : i < s.kinds.length) (k : Nat) : St.kind E ⟨s.kinds.set i c, f⟩ k = if k = E.frm + i then some c else s.kind E k := by
  unfold St.kind
  dsimp only []
  by_cases hk : k < E.frm
  · rw [if_pos hk, if_pos hk, if_neg (by omega)]
  · rw [if_neg hk, if_neg hk, List.getElem?_set]
    by_cases h2 : k = E.frm + i
    · rw [if_pos h2, if_pos (by omega), if_pos (by simpa using hi)]
    · rw [if_neg h2, if_neg (by omega)]
theorem PS.lt {F : List PA} (a : PS E KK (pg k b :: F) s) : k < 8192 := by
  obtain ⟨a1, a2, _⟩ := a
  have := a1.pg_get
  rcases rd_some this with ⟨h, _⟩ | ⟨h, _⟩ <;> (have := kind_lt' h; omega)
theorem get_gets (a : PS E KK (pg k b :: F) s) : Gets E (getM E k) s b := by
  rintro r s' ⟨rfl, h⟩
  have := a.1.pg_get
  unfold rd at this
  split at this
  · next h1 => rw [if_pos h1] at h; exact ⟨rfl, .inl (by rw [h, Option.some.inj this])⟩
  · next h1 =>
    split at this
    · next h2 =>
      rw [if_neg h1, if_pos h2] at h
      rcases h with h | ⟨hd, h⟩
      · exact ⟨rfl, .inl (by rw [h, Option.some.inj this])⟩
      · exact ⟨rfl, .inr ⟨hd, _, h⟩⟩
    · cases this
theorem find_first {l : List Nat} {i : Nat} (h : l.findIdx? (· == 0) = some i) : ∃ hi : i < l.length, l[i] = 0 := by
  rw [List.findIdx?_eq_some_iff_getElem] at h
  obtain ⟨h1, h2, _⟩ := h
  exact ⟨h1, by simpa using h2⟩
theorem rd_take {i : Nat} (hi : i < s.kinds.length) (h0 : s.kinds[i] = 0) (a : PS E KK F s) : PS E KK (pg (E.frm + i) zeros :: F) ⟨s.kinds.set i 1, upd s.by_ (E.frm + i) zeros⟩ := by
  have hk0 : s.kind E (E.frm + i) = some 0 := by
    unfold St.kind; rw [if_neg (by omega), Nat.add_sub_cancel_left, List.getElem?_eq_getElem hi, h0]
  refine ⟨a.1.pg_new (k := E.frm + i) ?_ (fun j hj => ?_) ?_, by simpa using a.2.1, a.2.2.set (List.getElem?_eq_getElem hi) (.inl ⟨by omega, by omega⟩)⟩
  · unfold rd; rw [hk0]; rfl
  · unfold rd; rw [kind_set' hi, if_neg hj]; dsimp only []; unfold upd; rw [if_neg hj]
  · unfold rd; rw [kind_set' hi, if_pos rfl, if_pos rfl]; dsimp only []; unfold upd; rw [if_pos rfl]
theorem take_ok (a : PS E KK F s) : Ok (takeM E) s fun k s' => PS E KK (pg k zeros :: F) s' := by
  intro k s' h
  unfold takeM at h
  cases hf : s.kinds.findIdx? (· == 0) with
  | none => rw [hf] at h; cases h.1
  | some i =>
    rw [hf] at h
    obtain ⟨hi, h0⟩ := find_first hf
    obtain ⟨e, rfl⟩ := h
    cases e
    exact rd_take hi h0 a
theorem rd_put (h1 : s.kind E k = some 1) (a : PS E KK (pg k b0 :: F) s) : PS E KK (pg k b :: F) ⟨s.kinds, upd s.by_ k b⟩ := by
  refine ⟨a.1.pg_set (fun j hj => ?_) ?_, a.2⟩
  · show rd E ⟨s.kinds, upd s.by_ k b⟩ j = _
    unfold rd
    show (if s.kind E j = some 1 then some (upd s.by_ k b j) else _) = _
    unfold upd; rw [if_neg hj]; rfl
  · show (if s.kind E k = some 1 then some (upd s.by_ k b k) else _) = _
    rw [if_pos h1]; unfold upd; rw [if_pos rfl]
theorem put_ok (a : PS E KK (pg k b0 :: F) s) : Ok (putM E k b) s fun _ s' => PS E KK (pg k b :: F) s' := by
  intro _ s' h
  unfold putM at h
  split at h
  · next h1 =>
    split at h
    · obtain ⟨_, rfl⟩ := h; exact rd_put h1 a
    · cases h.1
  · cases h.1
theorem drop_ok (a : PS E KK (pg k b0 :: F) s) : Ok (dropM E k) s fun _ s' => PS E KK F s' := by
  intro _ s' h
  have hk : ∀ c c1, s.kind E k = some c1 → c1 ≤ 1 ∧ c ≤ 1 ∨ c1 = 2 ∧ c = 3 → PS E KK F ⟨s.kinds.set (k - E.frm) c, s.by_⟩ := fun c c1 hk1 hcc => by
    have hlt : E.frm ≤ k ∧ k - E.frm < s.kinds.length := by
      rcases rd_some a.1.pg_get with ⟨h, _⟩ | ⟨h, _⟩ <;> exact kind_lt' h
    refine ⟨a.1.pg_drop fun j hj => ?_, by simpa using a.2.1, a.2.2.set (c1 := c1) (by unfold St.kind at hk1; rw [if_neg (by omega)] at hk1; exact hk1) hcc⟩
    have hne : ¬ j = E.frm + (k - E.frm) := by omega
    unfold rd
    rw [kind_set' hlt.2, if_neg hne]
  unfold dropM at h
  split at h
  · next h1 => obtain ⟨_, rfl⟩ := h; exact hk 0 1 h1 (.inl ⟨by omega, by omega⟩)
  · split at h
    · next h2 => obtain ⟨_, rfl⟩ := h; exact hk 3 2 h2 (.inr ⟨rfl, rfl⟩)
    · cases h.1
theorem drops_ok : ∀ {l : List (Nat × Bs)} {s : St}, PS E KK (l.map (fun x => pg x.1 x.2) ++ F) s → Ok (dropsM E (l.map (·.1))) s fun _ s' => PS E KK F s'
  | [], s, a => Ok.pure a
  | x :: l, s, a => Ok.bind ((drop_ok a).mono fun _ s' h => drops_ok h)
theorem new_ok (a : PS E KK F s) : Ok (newM E b none) s fun k s' => PS E KK (pg k b :: F) s' :=
  Ok.bind ((take_ok a).mono fun k s1 h1 => Ok.bind (Ok.pure (Ok.bind ((put_ok (b := b) h1).mono fun _ s2 h2 => Ok.pure h2))))
theorem new_ok' (a : PS E KK (pg k b0 :: F) s) : Ok (newM E b (some k)) s fun k' s' => PS E KK (pg k' b :: F) s' :=
  Ok.bind ((take_ok a).mono fun k' s1 h1 => Ok.bind ((drop_ok (h1.pickF 2 [1, 0] rfl rfl)).mono fun _ s2 h2 => Ok.bind ((put_ok (b := b) h2).mono fun _ s3 h3 => Ok.pure h3)))
theorem putN_ok {n : Nd} (a : PS E KK F s) : Ok (putNM E none n) s fun k s' => n.right ∧ PS E KK (pg k n.page :: F) s' :=
  Ok.ite (fun _ => Ok.fail) fun h => (new_ok a).mono fun _ _ h' => ⟨Classical.not_not.1 h, h'⟩
theorem putN_ok' {n : Nd} (a : PS E KK (pg k b0 :: F) s) : Ok (putNM E (some k) n) s fun k' s' => n.right ∧ PS E KK (pg k' n.page :: F) s' := by
  refine Ok.ite (fun _ => Ok.fail) fun h => ?_
  have hr := Classical.not_not.1 h
  intro k' s' h'
  dsimp only [] at h'
  split at h'
  · next h1 => obtain ⟨e, rfl⟩ := h'; cases e; exact ⟨hr, rd_put h1 a⟩
  · exact ⟨hr, new_ok' a _ _ h'⟩
end
end Go.Pa
