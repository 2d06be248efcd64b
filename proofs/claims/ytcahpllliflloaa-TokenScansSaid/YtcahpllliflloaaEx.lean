/-
  A reckoner: it carries a walk on over all that only reckons and over all turns that are decided, in one step, and hands out what must hold on the way. Nothing of a program stands here.
-/
import Derived.Test.YtcahpllliflloaaMore
set_option linter.unusedVariables false
set_option linter.unusedSimpArgs false
namespace Go.Sl
open Go

/-- What is known of a program's types, as lists. -/
structure Tab where
  u : List (TypeId × TypeDesc)
  sz : List (TypeId × Nat)
  off : List (TypeId × Nat × Nat)
def look {α : Type} : List (Nat × α) → Nat → Option α
  | [], _ => none
  | (k, v) :: r, t => bif Nat.beq k t then some v else look r t
def look2 : List (Nat × Nat × Nat) → Nat → Nat → Option Nat
  | [], _, _ => none
  | (k, j, v) :: r, t, u => bif Nat.beq k t && Nat.beq j u then some v else look2 r t u
/-- The lists are right. -/
class TabOk (P : Program) (T : outParam Tab) : Prop where
  u : ∀ x ∈ T.u, P.underlying x.1 = some x.2
  sz : ∀ x ∈ T.sz, ∀ w, (sizeOf x.1).run P w = .ok x.2 w
  off : ∀ x ∈ T.off, ∀ (b o : Nat) (w : World), (Instr.fieldAt x.1 (.pointer (some ⟨b, o, none⟩)) x.2.1).run P w = .ok (.pointer (some ⟨b, o + x.2.2, none⟩)) w
theorem look_mem {α : Type} : ∀ {l : List (Nat × α)} {t : Nat} {v : α}, look l t = some v → (t, v) ∈ l
  | (k, u) :: r, t, v, e => by
    simp only [look] at e
    cases hb : Nat.beq k t with
    | true => rw [hb] at e; have : k = t := by simpa using hb
              subst this; simp at e; subst e; exact List.mem_cons_self
    | false => rw [hb] at e; exact List.mem_cons_of_mem _ (look_mem e)
theorem look2_mem : ∀ {l : List (Nat × Nat × Nat)} {t u : Nat} {v : Nat}, look2 l t u = some v → (t, u, v) ∈ l
  | (k, j, x) :: r, t, u, v, e => by
    simp only [look2] at e
    cases hb : (Nat.beq k t && Nat.beq j u) with
    | true => rw [hb] at e
              simp only [Bool.and_eq_true] at hb
              have h1 : k = t := by simpa using hb.1
              have h2 : j = u := by simpa using hb.2
              subst h1; subst h2; simp at e; subst e; exact List.mem_cons_self
    | false => rw [hb] at e; exact List.mem_cons_of_mem _ (look2_mem e)

/-- A number within its kind. -/
def rng (k : IntKind) (n : Int) : Prop :=
  match k with
  | .i64 => -9223372036854775808 ≤ n ∧ n ≤ 9223372036854775807
  | .i32 => -2147483648 ≤ n ∧ n ≤ 2147483647
  | .i16 => -32768 ≤ n ∧ n ≤ 32767
  | .i8 => -128 ≤ n ∧ n ≤ 127
  | .u8 => 0 ≤ n ∧ n ≤ 255
  | .u16 => 0 ≤ n ∧ n ≤ 65535
  | .u32 => 0 ≤ n ∧ n ≤ 4294967295
  | .u64 => 0 ≤ n ∧ n ≤ 18446744073709551615
theorem rng_max {k : IntKind} {n : Int} (h : rng k n) : n ≤ k.max := by
  cases k <;> exact Int.le_trans h.2 (by decide)
theorem wrap_rng {k : IntKind} {n : Int} (h : rng k n) : k.wrap n = n := by
  cases k <;> exact wrap_of h.1 h.2
/-- Kinds of numbers whose sums are to stay in bounds; of others they are wrapped. -/
def strictK : IntKind → Bool
  | .i64 | .i32 => true
  | _ => false
def sumV (k : IntKind) (n : Int) : Value := if strictK k then .int k n else .int k (k.wrap n)
structure Ans where
  known : Bool
  v : Value
  cs : List Prop
def Conds : List Prop → Prop
  | [] => True
  | [p] => p
  | p :: r => p ∧ Conds r
theorem Conds.append : ∀ {l m : List Prop}, Conds (l ++ m) → Conds l ∧ Conds m
  | [], m, h => ⟨trivial, h⟩
  | [p], [], h => ⟨h, trivial⟩
  | [p], q :: m, h => h
  | p :: q :: l, m, h => by
    have := Conds.append (l := q :: l) h.2
    exact ⟨⟨h.1, this.1⟩, this.2⟩
def numV (k : IntKind) (n : Int) : Ans := match strictK k with
  | true => ⟨true, .int k n, [rng k n]⟩
  | false => ⟨true, .int k (k.wrap n), []⟩
def sameK : IntKind → IntKind → Bool
  | .i8, .i8 | .i16, .i16 | .i32, .i32 | .i64, .i64 | .u8, .u8 | .u16, .u16 | .u32, .u32 | .u64, .u64 => true
  | _, _ => false
theorem sameK_eq {k k' : IntKind} (h : sameK k k' = true) : k = k' := by cases k <;> cases k' <;> first | rfl | cases h
/-- Powers of two: how far a shift goes, and by what it multiplies. -/
def pows : List (Nat × Int) := [(0, 1), (1, 2), (2, 4), (3, 8), (4, 16), (5, 32), (6, 64), (7, 128), (8, 256), (9, 512), (10, 1024), (12, 4096), (16, 65536), (18, 262144), (24, 16777216), (32, 4294967296), (40, 1099511627776), (48, 281474976710656), (56, 72057594037927936)]
def masks : List (Nat × Nat × Int) := [(1, 1, 2), (3, 2, 4), (7, 3, 8), (15, 4, 16), (31, 5, 32), (63, 6, 64), (127, 7, 128), (255, 8, 256), (511, 9, 512), (1023, 10, 1024), (4095, 12, 4096), (65535, 16, 65536), (2147483647, 31, 2147483648), (4294967295, 32, 4294967296)]
theorem look_mem' {α : Type} : ∀ (l : List (Nat × α)) (t : Nat) (v : α), look l t = some v → (t, v) ∈ l := by
  intro l
  induction l with
  | nil => intro t v h; cases h
  | cons x l ih =>
    intro t v h
    simp only [look] at h
    cases hb : Nat.beq x.1 t with
    | true => rw [hb] at h; have : x.1 = t := by simpa using hb
              subst this; simp at h; subst h; exact List.mem_cons_self
    | false => rw [hb] at h; exact List.mem_cons_of_mem _ (ih t v h)
theorem pows_ok {n : Nat} {q : Int} (h : look pows n = some q) : q = 2 ^ n := by
  have key : ∀ x ∈ pows, x.2 = 2 ^ x.1 := by decide
  exact key _ (look_mem' _ _ _ h)
theorem masks_ok {c p : Nat} {q : Int} (h : look masks c = some (p, q)) : c = 2 ^ p - 1 ∧ q = ((2 ^ p : Nat) : Int) := by
  have key : ∀ x ∈ masks, x.1 = 2 ^ x.2.1 - 1 ∧ x.2.2 = ((2 ^ x.2.1 : Nat) : Int) := by decide
  exact key _ (look_mem' _ _ _ h)
/-- A binary operation on values that are written out. -/
def binV (T : Tab) (t : TypeId) : BinOp → Value → Value → Option Ans
  | .add, .int k m, .int k' n => match sameK k k' with | true => some (numV k (m + n)) | false => none
  | .sub, .int k m, .int k' n => match sameK k k' with | true => some (numV k (m - n)) | false => none
  | .mul, .int k m, .int k' n => match sameK k k' with | true => some (numV k (m * n)) | false => none
  | .quo, .int k m, .int k' n => match sameK k k' with | true => some ⟨true, .int k (m / n), [0 ≤ m, 1 ≤ n, rng k m]⟩ | false => none
  | .rem, .int k m, .int k' n => match sameK k k' with | true => some ⟨true, .int k (m % n), [0 ≤ m, 1 ≤ n]⟩ | false => none
  | .lss, .int k m, .int k' n => match sameK k k' with | true => some ⟨false, .bool (decide (m < n)), []⟩ | false => none
  | .leq, .int k m, .int k' n => match sameK k k' with | true => some ⟨false, .bool (decide (m ≤ n)), []⟩ | false => none
  | .gtr, .int k m, .int k' n => match sameK k k' with | true => some ⟨false, .bool (decide (n < m)), []⟩ | false => none
  | .geq, .int k m, .int k' n => match sameK k k' with | true => some ⟨false, .bool (decide (n ≤ m)), []⟩ | false => none
  | .eql, .int k m, .int k' n => match sameK k k' with | true => some ⟨false, .bool (decide (m = n)), []⟩ | false => none
  | .neq, .int k m, .int k' n => match sameK k k' with | true => some ⟨false, .bool (decide (m ≠ n)), []⟩ | false => none
  | .shl, .int k m, .int _ (.ofNat j) => match look pows j, Nat.ble j k.bits with
    | some q, true => some (numV k (m * q))
    | _, _ => none
  | .shr, .int k m, .int _ (.ofNat j) => match look pows j, Nat.ble j k.bits with
    | some q, true => some ⟨true, .int k (m / q), []⟩
    | _, _ => none
  | .and, .int k m, .int k' (.ofNat c) => match sameK k k' with
    | true => match look masks c with
      | some (p, q) => match Nat.ble (p + (bif k.signed then 1 else 0)) k.bits with
        | true => some ⟨true, .int k (m % q), []⟩
        | false => none
      | none => some ⟨true, .int k ((m.toNat &&& c : Nat) : Int), [0 ≤ m, rng k m, rng k (c : Int)]⟩
    | false => none
  | .xor, .int k m, .int k' n => match sameK k k' with
    | true => some ⟨true, .int k ((m.toNat ^^^ n.toNat : Nat) : Int), [0 ≤ m, 0 ≤ n, rng k m, rng k n]⟩
    | false => none
  | .add, .string ⟨⟨l⟩⟩, .string ⟨⟨m⟩⟩ => some ⟨true, str (l ++ m), [l.length + m.length ≤ 9223372036854775807]⟩
  | .eql, .string ⟨⟨l⟩⟩, .string ⟨⟨m⟩⟩ => some ⟨false, .bool (decide (l = m)), []⟩
  | .neq, .string ⟨⟨l⟩⟩, .string ⟨⟨m⟩⟩ => some ⟨false, .bool (decide (l ≠ m)), []⟩
  | .eql, .pointer p, .pointer none => match look T.u t, p with
    | some (.pointer _), none => some ⟨true, .bool true, []⟩
    | some (.pointer _), some _ => some ⟨true, .bool false, []⟩
    | _, _ => none
  | .neq, .pointer p, .pointer none => match look T.u t, p with
    | some (.pointer _), none => some ⟨true, .bool false, []⟩
    | some (.pointer _), some _ => some ⟨true, .bool true, []⟩
    | _, _ => none
  | _, _, _ => none
/-- What an operation that only reckons comes to. -/
def ansOf (T : Tab) (fr : Fr) : Op → Option Ans
  | .move x => match evf fr x with | some (f, v) => some ⟨f, v, []⟩ | none => none
  | .assign x => match evf fr x with | some (f, v) => some ⟨f, v, []⟩ | none => none
  | .pick c x y => match evf fr c with
    | some (true, .bool true) => match evf fr x with | some (f, v) => some ⟨f, v, []⟩ | none => none
    | some (true, .bool false) => match evf fr y with | some (f, v) => some ⟨f, v, []⟩ | none => none
    | _ => none
  | .extract x k => match evf fr x with
    | some (true, .tuple ⟨vs⟩) => match vs[k]? with | some v => some ⟨true, v, []⟩ | none => none
    | _ => none
  | .nilCheck x => match evf fr x with | some (true, .pointer (some a)) => some ⟨true, .pointer (some a), []⟩ | _ => none
  | .fieldAddr s x f => match look2 T.off s f, evf fr x with
    | some off, some (true, .pointer (some ⟨b, o, none⟩)) => some ⟨true, .pointer (some ⟨b, o + off, none⟩), []⟩
    | _, _ => none
  | .indexAddr t x i => match look T.u t, evf fr x, evf fr i with
    | some (.slice e), some (true, .slice (some ⟨b, o, none⟩) n _), some (true, .int _ j) => match look T.sz e with
      | some sz => some ⟨true, .pointer (some ⟨b, o + j.toNat * sz, none⟩), [0 ≤ j, j < (n : Int)]⟩
      | none => none
    | some (.array n e), some (true, .pointer (some ⟨b, o, none⟩)), some (true, .int _ j) => match look T.sz e with
      | some sz => some ⟨true, .pointer (some ⟨b, o + j.toNat * sz, none⟩), [0 ≤ j, j < (n : Int)]⟩
      | none => none
    | _, _, _ => none
  | .index t x i => match look T.u t, evf fr x, evf fr i with
    | some .string, some (true, .string ⟨⟨l⟩⟩), some (true, .int _ j) => some ⟨true, .int .u8 (byteAt l j.toNat), [0 ≤ j, j < (l.length : Int)]⟩
    | _, _, _ => none
  | .binOp op t x y _ => match evf fr x, evf fr y with
    | some (true, vx), some (true, vy) => binV T t op vx vy
    | _, _ => none
  | .unOp .not _ x => match evf fr x with
    | some (true, .bool true) => some ⟨true, .bool false, []⟩
    | some (true, .bool false) => some ⟨true, .bool true, []⟩
    | some (false, .bool b) => some ⟨false, .bool (!b), []⟩
    | _ => none
  | .unOp .neg _ x => match evf fr x with
    | some (true, .int k n) => some (numV k (0 - n))
    | _ => none
  | .convert src dst x => match look T.u src, look T.u dst, evf fr x with
    | some _, some (.int k), some (true, .int _ n) => match strictK k with
      | true => some ⟨true, .int k n, [rng k n]⟩
      | false => some ⟨true, .int k (k.wrap n), []⟩
    | some _, some .string, some (true, .string ⟨⟨l⟩⟩) => some ⟨true, str l, []⟩
    | _, _, _ => none
  | .call { callee := .builtin .len, args := ⟨[x]⟩, argTypes := ⟨[t]⟩ } => match look T.u t, evf fr x with
    | some .string, some (true, .string ⟨⟨l⟩⟩) => some ⟨true, .int .i64 (l.length : Int), []⟩
    | some (.slice _), some (true, .slice _ n _) => some ⟨true, .int .i64 (n : Int), []⟩
    | some (.array n _), some _ => some ⟨true, .int .i64 (n : Int), []⟩
    | _, _ => none
  | .call { callee := .builtin .min, args := ⟨[x, y]⟩, argTypes := _ } => match evf fr x, evf fr y with
    | some (true, .int k m), some (true, .int _ n) => some ⟨true, .int k (min m n), []⟩
    | _, _ => none
  | .call { callee := .builtin .max, args := ⟨[x, y]⟩, argTypes := _ } => match evf fr x, evf fr y with
    | some (true, .int k m), some (true, .int _ n) => some ⟨true, .int k (max m n), []⟩
    | _, _ => none
  | .slice t x lo hi none => match look T.u t, evf fr x with
    | some .string, some (true, .string ⟨⟨l⟩⟩) => match lo, hi with
      | none, none => none
      | some lo, none => match evf fr lo with
        | some (true, .int _ a) => some ⟨true, str (l.drop a.toNat), [0 ≤ a, a ≤ (l.length : Int)]⟩
        | _ => none
      | none, some hi => match evf fr hi with
        | some (true, .int _ b) => some ⟨true, str (l.take b.toNat), [0 ≤ b, b ≤ (l.length : Int)]⟩
        | _ => none
      | some lo, some hi => match evf fr lo, evf fr hi with
        | some (true, .int _ a), some (true, .int _ b) => some ⟨true, str ((l.take b.toNat).drop a.toNat), [0 ≤ a, a ≤ b, b ≤ (l.length : Int)]⟩
        | _, _ => none
    | _, _ => none
  | _ => none

section
variable {P : Program} {T : Tab} {fr : Fr} {d : Option Tmp} {ty : TypeId} {pos : String} {aft : Array Edge} {g : Option (Nat × Bool)}
theorem look_u [h : TabOk P T] {t : Nat} {v : TypeDesc} (e : look T.u t = some v) : TyU P t v := ⟨h.u _ (look_mem e)⟩
theorem numV_bin {k : IntKind} {m n : Int} {r : Int} {t : TypeId} {op : BinOp} {ans : Ans} (ha : numV k r = ans) (hc : Conds ans.cs) (h : ∀ z, k.wrap r = z → Bin P op t (.int k m) (.int k n) (.int k z)) : Bin P op t (.int k m) (.int k n) ans.v := by
  subst ha
  unfold numV at *
  cases hk : strictK k with
  | true => rw [hk] at hc; exact h _ (wrap_rng hc)
  | false => exact h _ rfl
theorem numV_gen {k : IntKind} {vx vy : Value} {r : Int} {t : TypeId} {op : BinOp} {ans : Ans} (ha : numV k r = ans) (hc : Conds ans.cs) (h : ∀ z, k.wrap r = z → Bin P op t vx vy (.int k z)) : Bin P op t vx vy ans.v := by
  subst ha
  unfold numV at *
  cases hk : strictK k with
  | true => rw [hk] at hc; exact h _ (wrap_rng hc)
  | false => exact h _ rfl
theorem binV_ok [TabOk P T] {t : TypeId} {op : BinOp} {vx vy : Value} {ans : Ans} (h : binV T t op vx vy = some ans) (hc : Conds ans.cs) : Bin P op t vx vy ans.v := by
  unfold binV at h
  split at h
  · split at h
    · rename_i hk; cases sameK_eq hk; simp only [Option.some.injEq] at h; exact numV_bin h hc fun z hz => br_add hz
    · cases h
  · split at h
    · rename_i hk; cases sameK_eq hk; simp only [Option.some.injEq] at h; exact numV_bin h hc fun z hz => br_sub hz
    · cases h
  · split at h
    · rename_i hk; cases sameK_eq hk; simp only [Option.some.injEq] at h; exact numV_bin h hc fun z hz => br_mul hz
    · cases h
  · split at h
    · rename_i hk; cases sameK_eq hk; cases h; exact br_quo hc.1 hc.2.1 (rng_max hc.2.2)
    · cases h
  · split at h
    · rename_i hk; cases sameK_eq hk; cases h; exact br_rem hc.1 hc.2
    · cases h
  · split at h
    · rename_i hk; cases sameK_eq hk; cases h; exact br_lss
    · cases h
  · split at h
    · rename_i hk; cases sameK_eq hk; cases h; exact br_leq
    · cases h
  · split at h
    · rename_i hk; cases sameK_eq hk; cases h; exact br_gtr
    · cases h
  · split at h
    · rename_i hk; cases sameK_eq hk; cases h; exact br_geq
    · cases h
  · split at h
    · rename_i hk; cases sameK_eq hk; cases h; exact br_eql
    · cases h
  · split at h
    · rename_i hk; cases sameK_eq hk; cases h; exact br_neq
    · cases h
  · -- shl
    split at h
    · rename_i q e1 e2
      simp only [Option.some.injEq] at h
      have hq := pows_ok e1
      subst hq
      exact numV_gen h hc fun z hz => br_shl e2 hz
    · cases h
  · -- shr
    split at h
    · rename_i q e1 e2
      have hq := pows_ok e1
      subst hq
      cases h
      exact br_shr e2
    · cases h
  · -- and
    split at h
    · rename_i hk; cases sameK_eq hk
      split at h
      · rename_i p q e1
        split at h
        · rename_i e2
          obtain ⟨hc2, hq2⟩ := masks_ok e1
          subst hc2
          subst hq2
          cases h
          exact br_mask e2
        · cases h
      · cases h
        obtain ⟨h0, h1, h2⟩ := hc
        obtain ⟨a, rfl, ha⟩ : ∃ a : Nat, _ = (a : Int) ∧ _ = a := ⟨_, (Int.toNat_of_nonneg h0).symm, rfl⟩
        exact br_and (rng_max h1) (rng_max h2)
    · cases h
  · -- xor
    split at h
    · rename_i hk; cases sameK_eq hk
      cases h
      obtain ⟨h0, h1, h2, h3⟩ := hc
      obtain ⟨a, rfl, _⟩ : ∃ a : Nat, _ = (a : Int) ∧ True := ⟨_, (Int.toNat_of_nonneg h0).symm, trivial⟩
      obtain ⟨b, rfl, _⟩ : ∃ a : Nat, _ = (a : Int) ∧ True := ⟨_, (Int.toNat_of_nonneg h1).symm, trivial⟩
      exact br_xor (rng_max h2) (rng_max h3)
    · cases h
  · cases h; exact br_sadd (by rw [Nat.ble_eq]; exact hc)
  · cases h; exact br_seql
  · cases h; exact br_sneq
  · split at h
    · rename_i e hu; cases h; have := look_u (P := P) hu; exact br_none_nil
    · rename_i e _ hu; cases h; have := look_u (P := P) hu; exact br_some_nil
    · cases h
  · split at h
    · rename_i e hu; cases h; have := look_u (P := P) hu; exact br_none_nnil
    · rename_i e _ hu; cases h; have := look_u (P := P) hu; exact br_some_nnil
    · cases h
  · cases h
theorem nat_of {j : Int} (h : 0 ≤ j) : ∃ m : Nat, j = (m : Int) ∧ j.toNat = m := ⟨j.toNat, by omega, rfl⟩
theorem ansOf_ok [hT : TabOk P T] {op : Op} {ans : Ans} (h : ansOf T fr op = some ans) (hc : Conds ans.cs) : Pure P ⟨d, op, ty, pos, aft, g⟩ fr ans.v := by
  unfold ansOf at h
  split at h
  · -- move
    split at h
    · rename_i e; cases h; exact po_move (evf_ev e)
    · cases h
  · split at h
    · rename_i e; cases h; exact po_assign (evf_ev e)
    · cases h
  · -- pick
    split at h
    · rename_i e
      split at h
      · rename_i e'; cases h; exact po_pick_true (evf_ev e) (evf_ev e')
      · cases h
    · rename_i e
      split at h
      · rename_i e'; cases h; exact po_pick_false (evf_ev e) (evf_ev e')
      · cases h
    · cases h
  · -- extract
    split at h
    · rename_i e
      split at h
      · rename_i e'; cases h; exact po_extract (evf_ev e) (by simpa using e')
      · cases h
    · cases h
  · split at h
    · rename_i e; cases h; exact po_nilCheck (evf_ev e)
    · cases h
  · -- fieldAddr
    split at h
    · rename_i e e'; cases h
      have := hT.off _ (look2_mem e)
      intro n ds a hf w
      simp [execOp, hf.ev (evf_ev e'), this]
    · cases h
  · -- indexAddr
    split at h
    · rename_i e hu hx hi
      split at h
      · rename_i sz hsz; cases h
        obtain ⟨m, rfl, hm⟩ := nat_of hc.1
        have := look_u (P := P) hu
        have hs := hT.sz _ (look_mem hsz)
        have hlt := hc.2
        intro n ds a hf w
        simp only [execOp, hf.ev (evf_ev hx), hf.ev (evf_ev hi), Instr.indexAt, asIntOf]
        rw [hm]
        have hlt' : m < _ := Int.ofNat_lt.1 hlt
        simp [TyU.run (P := P) (h := this) w, hs, hlt', Addr.add_lit]
      · cases h
    · rename_i n e hu hx hi
      split at h
      · rename_i sz hsz; cases h
        obtain ⟨m, rfl, hm⟩ := nat_of hc.1
        have := look_u (P := P) hu
        have hs := hT.sz _ (look_mem hsz)
        have hlt := hc.2
        intro n ds a hf w
        simp only [execOp, hf.ev (evf_ev hx), hf.ev (evf_ev hi), Instr.indexAt, asIntOf]
        rw [hm]
        have hlt' : m < _ := Int.ofNat_lt.1 hlt
        simp [TyU.run (P := P) (h := this) w, Instr.sureAddr, hs, hlt', Addr.add_lit]
      · cases h
    · cases h
  · -- index
    split at h
    · rename_i hu hx hi; cases h
      obtain ⟨m, rfl, hm⟩ := nat_of hc.1
      have := look_u (P := P) hu
      rw [hm]
      exact po_index_str (evf_ev hx) (evf_ev hi) (Int.ofNat_lt.1 hc.2)
    · cases h
  · -- binOp
    split at h
    · rename_i hx hy; exact po_bin (evf_ev hx) (evf_ev hy) (binV_ok h hc)
    · cases h
  · -- not
    split at h
    · rename_i e; cases h; exact po_not (evf_ev e)
    · rename_i e; cases h; exact po_not (evf_ev e)
    · rename_i e; cases h; exact po_not (evf_ev e)
    · cases h
  · -- neg
    split at h
    · rename_i k n e
      simp only [Option.some.injEq] at h; subst h
      unfold numV at *
      cases hk : strictK k with
      | true => rw [hk] at hc; exact po_neg (evf_ev e) (wrap_rng hc)
      | false => exact po_neg (evf_ev e) rfl
    · cases h
  · -- convert
    split at h
    · rename_i hs hd hx
      have i1 := look_u (P := P) hs
      have i2 := look_u (P := P) hd
      split at h
      · cases h; exact po_conv_int (evf_ev hx) (wrap_rng hc)
      · cases h; exact po_conv_int (evf_ev hx) rfl
    · rename_i hs hd hx
      have i1 := look_u (P := P) hs
      have i2 := look_u (P := P) hd
      cases h; exact po_conv_str (evf_ev hx)
    · cases h
  · -- len
    split at h
    · rename_i hu hx; cases h; have := look_u (P := P) hu; exact po_len_str (evf_ev hx)
    · rename_i hu hx; cases h; have := look_u (P := P) hu; exact po_len_slice (evf_ev hx)
    · rename_i hu hx; cases h; have := look_u (P := P) hu; exact po_len_array (evf_ev hx)
    · cases h
  · split at h
    · rename_i hx hy; cases h; exact po_min (evf_ev hx) (evf_ev hy)
    · cases h
  · split at h
    · rename_i hx hy; cases h; exact po_max (evf_ev hx) (evf_ev hy)
    · cases h
  · -- slice of a text
    split at h
    · rename_i hu hx
      have := look_u (P := P) hu
      split at h
      · cases h
      · split at h
        · rename_i hl; cases h
          obtain ⟨m, rfl, hm⟩ := nat_of hc.1
          rw [hm]; exact po_slice_str_lo (evf_ev hx) (evf_ev hl) (Int.ofNat_le.1 hc.2)
        · cases h
      · split at h
        · rename_i hl; cases h
          obtain ⟨m, rfl, hm⟩ := nat_of hc.1
          rw [hm]; exact po_slice_str_hi (evf_ev hx) (evf_ev hl) (Int.ofNat_le.1 hc.2)
        · cases h
      · split at h
        · rename_i hl hh; cases h
          obtain ⟨m, rfl, hm⟩ := nat_of hc.1
          obtain ⟨m', rfl, hm'⟩ := nat_of (Int.le_trans hc.1 hc.2.1)
          rw [hm, hm']; exact po_slice_str (evf_ev hx) (evf_ev hl) (evf_ev hh) (Int.ofNat_le.1 hc.2.1) (Int.ofNat_le.1 hc.2.2)
        · cases h
    · cases h
  · cases h
end

/-! ### The reckoner -/
structure Out where
  k : List It
  fr : Fr
  cs : List Prop
def wantsF (ops : Array Oper) (fr : Fr) (j : Nat) (want : Bool) : Option Bool :=
  match (ops.toList[j]?) with
  | some ⟨some d, _, _, _, _, _⟩ => match lkf fr d with
    | some (true, .bool true) => some want
    | some (true, .bool false) => some (!want)
    | some (true, .tuple _) => some false
    | _ => none
  | _ => none
abbrev Nx := Option Out
def stepC (fr : Fr) (c : Code) (k : List It) : Nx :=
  match c with
  | .seq a b => some ⟨.code a :: .code b :: k, fr, []⟩
  | .skip => some ⟨k, fr, []⟩
  | .label _ => some ⟨k, fr, []⟩
  | .block id c => some ⟨.code c :: .blk id :: k, fr, []⟩
  | .exit id => match popTo id k with
    | some k' => some ⟨k', fr, []⟩
    | none => none
  | .cond c x y => match evf fr c with
    | some (true, .bool true) => some ⟨.code x :: k, fr, []⟩
    | some (true, .bool false) => some ⟨.code y :: k, fr, []⟩
    | _ => none
  | .region _ o d => match d with
    | false => some ⟨.ops true o [] (num 0 o.toList) :: k, fr, []⟩
    | true => none
  | _ => none
def stepO (T : Tab) (n : Nat) (det : Bool) (ops : Array Oper) (obs : Obs) (fr : Fr) (k : List It) : List (Nat × Oper) → Nx
  | [] => some ⟨k, fr, []⟩
  | (i, ⟨d, op, ty, pos, aft, g⟩) :: R => match g with
    | none => match ansOf T fr op, d with
      | some ⟨f, v, c⟩, some t => match Nat.blt t n with
        | true => some ⟨.ops det ops obs R :: k, (t, f, v) :: fr, c⟩
        | false => none
      | _, _ => none
    | some (j, want) => match wantsF ops fr j want with
      | some true => some ⟨.ops det ops obs ((i, ⟨d, op, ty, pos, aft, none⟩) :: R) :: k, fr, []⟩
      | some false => match d with
        | some t => match Nat.blt t n with
          | true => some ⟨.ops det ops obs R :: k, (t, true, undef) :: fr, []⟩
          | false => none
        | none => some ⟨.ops det ops obs R :: k, fr, []⟩
      | none => none
def step (T : Tab) (n : Nat) (fr : Fr) : List It → Nx
  | [] => none
  | .code c :: k => stepC fr c k
  | .blk _ :: k => some ⟨k, fr, []⟩
  | .ops det ops obs R :: k => stepO T n det ops obs fr k R
  | .goal _ :: _ => none
def exec (T : Tab) (n : Nat) : Nat → List It → Fr → List Prop → Out
  | 0, k, fr, cs => ⟨k, fr, cs⟩
  | f + 1, k, fr, cs => match step T n fr k with
    | some ⟨k', fr', []⟩ => exec T n f k' fr' cs
    | some ⟨k', fr', [p]⟩ => exec T n f k' fr' (p :: cs)
    | some ⟨k', fr', [p, q]⟩ => exec T n f k' fr' (p :: q :: cs)
    | some ⟨k', fr', [p, q, r]⟩ => exec T n f k' fr' (p :: q :: r :: cs)
    | some ⟨k', fr', p :: q :: r :: s⟩ => exec T n f k' fr' (p :: q :: r :: (s ++ cs))
    | none => ⟨k, fr, cs⟩
theorem wantsF_ok {ops : Array Oper} {fr : Fr} {j : Nat} {want b : Bool} {d : Option Tmp} {op : Op} {ty : TypeId} {pos : String} {aft : Array Edge} (h : wantsF ops fr j want = some b) : wants ops fr ⟨d, op, ty, pos, aft, some (j, want)⟩ = some b := by
  unfold wantsF at h
  split at h
  · rename_i d' _ _ _ _ _ he
    rw [Array.getElem?_toList] at he
    unfold wants
    simp only [he, Option.bind_some]
    split at h
    · rename_i e; rw [lkf_lk e]; simp at h ⊢; rw [← h]
    · rename_i e; rw [lkf_lk e]; simp at h ⊢; rw [← h]
    · rename_i e; rw [lkf_lk e]; simpa using h
    · cases h
  · cases h
section
variable {X : Cx} {T : Tab} [TabOk X.P T] {ds : List Deferred} {w : World}
theorem stepC_ok {fr : Fr} {c : Code} {k : List It} {o : Out} (h : stepC fr c k = some o) (hm : MC X ds o.k o.fr w) : MC X ds (.code c :: k) fr w := by
  unfold stepC at h
  split at h
  · cases h; exact MC.seq hm
  · cases h; exact MC.skip hm
  · cases h; exact MC.label hm
  · cases h; exact MC.block hm
  · split at h
    · rename_i e; cases h; exact MC.exit e hm
    · cases h
  · split at h
    · rename_i e; cases h; exact MC.cond_lit (evf_ev e) hm
    · rename_i e; cases h; exact MC.cond_lit (evf_ev e) hm
    · cases h
  · split at h
    · cases h; exact MC.region hm
    · cases h
  · cases h
theorem stepO_ok {det : Bool} {ops : Array Oper} {obs : Obs} {fr : Fr} {k : List It} {R : List (Nat × Oper)} {o : Out} (h : stepO T X.n det ops obs fr k R = some o) (hc : Conds o.cs) (hm : MC X ds o.k o.fr w) : MC X ds (.ops det ops obs R :: k) fr w := by
  cases R with
  | nil => simp only [stepO] at h; cases h; exact MC.opsEnd hm
  | cons x R =>
    obtain ⟨i, d, op, ty, pos, aft, g⟩ := x
    simp only [stepO] at h
    split at h
    · split at h
      · rename_i e1
        split at h
        · rename_i e2; cases h; exact MC.pure (d := some _) (ansOf_ok e1 hc) e2 hm
        · cases h
      · cases h
    · split at h
      · rename_i e; cases h; exact MC.want (wantsF_ok e) hm
      · rename_i e
        split at h
        · split at h
          · rename_i e2; cases h; exact MC.pass (d := some _) (wantsF_ok e) e2 hm
          · cases h
        · cases h; exact MC.pass (d := none) (wantsF_ok e) rfl hm
      · cases h
theorem step_ok {fr : Fr} {k : List It} {o : Out} (h : step T X.n fr k = some o) (hc : Conds o.cs) (hm : MC X ds o.k o.fr w) : MC X ds k fr w := by
  unfold step at h
  split at h
  · cases h
  · exact stepC_ok h hm
  · cases h; exact MC.blk hm
  · exact stepO_ok h hc hm
  · cases h
theorem exec_ok : ∀ (f : Nat) (k : List It) (fr : Fr) (cs : List Prop), Conds (exec T X.n f k fr cs).cs → (MC X ds (exec T X.n f k fr cs).k (exec T X.n f k fr cs).fr w → MC X ds k fr w) ∧ Conds cs := by
  intro f
  induction f with
  | zero => intro k fr cs h; exact ⟨id, h⟩
  | succ f ih =>
    intro k fr cs h
    have go : ∀ {k' fr' cs'}, step T X.n fr k = some ⟨k', fr', cs'⟩ → Conds (exec T X.n f k' fr' (cs' ++ cs)).cs →
        (MC X ds (exec T X.n f k' fr' (cs' ++ cs)).k (exec T X.n f k' fr' (cs' ++ cs)).fr w → MC X ds k fr w) ∧ Conds cs := fun e h => by
      obtain ⟨h1, h2⟩ := ih _ _ _ h
      obtain ⟨h3, h4⟩ := Conds.append h2
      exact ⟨fun hm => step_ok e h3 (h1 hm), h4⟩
    simp only [exec] at h ⊢
    split at h
    · rename_i e; exact go e h
    · rename_i e; exact go e h
    · rename_i e; exact go e h
    · rename_i e; exact go e h
    · rename_i e; exact go e h
    · exact ⟨id, h⟩
end
theorem MC.run {X : Cx} (T : Tab) [TabOk X.P T] {ds : List Deferred} {k : List It} {fr : Fr} {w : World} {k' : List It} {fr' : Fr} {cs : List Prop} (f : Nat) (h : exec T X.n f k fr [] = ⟨k', fr', cs⟩) (hc : Conds cs) (hm : MC X ds k' fr' w) : MC X ds k fr w := by
  have := (exec_ok (X := X) (T := T) (ds := ds) (w := w) f k fr [])
  rw [h] at this
  exact (this hc).1 hm
theorem MC.run1 {X : Cx} (T : Tab) [TabOk X.P T] {ds : List Deferred} {k : List It} {fr : Fr} {w : World} {k' : List It} {fr' : Fr} {cs : List Prop} (f : Nat) (h1 : (step T X.n fr k).isSome = true) (h : exec T X.n f k fr [] = ⟨k', fr', cs⟩) (hc : Conds cs) (hm : MC X ds k' fr' w) : MC X ds k fr w :=
  MC.run T f h hc hm
end Go.Sl
