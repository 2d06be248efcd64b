/- Roots: sums, numbers out of bytes, a sector's bytes. -/
import Derived.Test.YtoljbocejclaeaaRa
set_option linter.unusedVariables false
set_option linter.unusedSimpArgs false
namespace Go.Proofs.Ytoljbocejclaeaa
open Go Go.Sl
attribute [local irreducible] LooksAt

def sumFrom (s : Nat) (l : List UInt8) : Nat := l.foldl (fun s c => (s ^^^ c.toNat) * 16777619 % 4294967296) s
def sumOf (l : List UInt8) : Nat := sumFrom 2166136261 l
theorem sumFrom_lt {s : Nat} (hs : s < 4294967296) : ∀ (l : List UInt8), sumFrom s l < 4294967296
  | [] => hs
  | c :: l => sumFrom_lt (s := (s ^^^ c.toNat) * 16777619 % 4294967296) (by omega) l
theorem sumOf_lt (l : List UInt8) : sumOf l < 4294967296 := by
  unfold sumOf
  exact sumFrom_lt (by decide) l
theorem i64max : IntKind.i64.max = 9223372036854775807 := by decide
theorem sumFrom_take {s : Nat} {l : List UInt8} {i : Nat} (hi : i < l.length) : sumFrom s (l.take (i + 1)) = (sumFrom s (l.take i) ^^^ l[i].toNat) * 16777619 % 4294967296 := by
  simp only [sumFrom]
  rw [List.take_add_one, List.getElem?_eq_getElem hi, List.foldl_append, Option.toList_some, List.foldl_cons, List.foldl_nil]
abbrev u32 (n : Nat) : Value := .int .u32 (n : Int)
theorem more_spec {F : List Assn} {w : World} {vl : Value} {l : List UInt8} {s : Nat} (hs : Sat F w) (hx : RdS F 1 vl l.length (bytesV l)) (h0 : s < 4294967296) (hl : l.length ≤ 9223372036854775807) :
    Ret Try.prog 43 [u32 s, vl] w fun v w' => v = u32 (sumFrom s l) ∧ w' = w := by
  obtain ⟨q, c, rfl, hc, _⟩ := hx.shape
  refine Ret.enter [(true, u32 s), (true, .slice q l.length c)] _ Try.func43 rfl Try.ntmps43 rfl ?_
  repeat (first | (refine MC.run1 tab 1000 rfl rfl (by first | exact True.intro | (simp only [Conds, rng, Int.toNat_natCast, List.length_append, bytesV_length] <;> omega) | (simp [Conds, rng] <;> omega) | (simp only [Conds, rng, wrap_u8, wrap_u16, wrap_u32, wrap_u64] <;> omega)) ?_) | (refine MC.la true (la_load1 hs rfl (by rfl)) rfl ?_) | (refine MC.part rfl rfl (fun h => absurd h (by first | decide | omega)) (fun _ => ?_)) | (refine MC.part rfl rfl (fun _ => ?_) (fun h => absurd (by first | decide | omega) h)) | (refine MC.cond rfl (fun h => absurd h (by first | decide | omega)) (fun _ => ?_)) | (refine MC.cond rfl (fun _ => ?_) (fun h => absurd (by first | decide | omega) h)))
  refine MC.loop (σ := Nat) (fun i => [(0, true, u32 (sumFrom s (l.take i))), (7, true, .slice q l.length c), (8, true, int l.length), (9, true, int ((i : Nat) : Int))])
    (fun i w' => i ≤ l.length ∧ w' = w) (fun i => l.length - i) 0 (by repeat (first | exact trivial | refine ⟨rfl, ?_⟩)) ⟨by omega, rfl⟩ ?_
  rintro i w' ⟨hi, rfl⟩
  repeat (first | (refine MC.run1 tab 1000 rfl rfl (by first | exact True.intro | (simp only [Conds, rng, Int.toNat_natCast, List.length_append, bytesV_length] <;> omega) | (simp [Conds, rng] <;> omega) | (simp only [Conds, rng, wrap_u8, wrap_u16, wrap_u32, wrap_u64] <;> omega)) ?_) | (refine MC.la true (la_load1 hs rfl (by rfl)) rfl ?_) | (refine MC.part rfl rfl (fun h => absurd h (by first | decide | omega)) (fun _ => ?_)) | (refine MC.part rfl rfl (fun _ => ?_) (fun h => absurd (by first | decide | omega) h)) | (refine MC.cond rfl (fun h => absurd h (by first | decide | omega)) (fun _ => ?_)) | (refine MC.cond rfl (fun _ => ?_) (fun h => absurd (by first | decide | omega) h)))
  refine MC.cond rfl (fun hlt => ?_) (fun hge => ?_)
  · have hlt : i < l.length := by omega
    obtain ⟨b, o, rfl, hr⟩ := hx.at_ (by omega)
    have hsl := sumFrom_lt h0 (l.take i)
    have hst := sumFrom_take (s := s) hlt
    generalize sumFrom s (l.take i) = a at hsl hst
    have hcb := UInt8.toNat_lt l[i]
    repeat (first | (refine MC.run1 tab 1000 rfl rfl (by first | exact True.intro | (simp only [Conds, rng, Int.toNat_natCast, List.length_append, bytesV_length] <;> omega) | (simp [Conds, rng] <;> omega) | (simp only [Conds, rng, wrap_u8, wrap_u16, wrap_u32, wrap_u64] <;> omega)) ?_) | (refine MC.la true (la_load1 hs rfl (by rfl)) rfl ?_) | (refine MC.part rfl rfl (fun h => absurd h (by first | decide | omega)) (fun _ => ?_)) | (refine MC.part rfl rfl (fun _ => ?_) (fun h => absurd (by first | decide | omega) h)) | (refine MC.cond rfl (fun h => absurd h (by first | decide | omega)) (fun _ => ?_)) | (refine MC.cond rfl (fun _ => ?_) (fun h => absurd (by first | decide | omega) h)))
    refine MC.la true (la_load1_rd hr hs (j := ((i : Nat) : Int).toNat * 1) rfl (bytesV_at l i hlt)) rfl ?_
    generalize l[i] = ch at hst hcb
    have e1 : IntKind.u32.wrap (ch.toNat : Int) = ch.toNat := by rw [wrap_u32]; omega
    repeat (first | (refine MC.run1 tab 1000 rfl rfl (by first | exact True.intro | (simp only [Conds, rng, Int.toNat_natCast, List.length_append, bytesV_length] <;> omega) | (simp [Conds, rng] <;> omega) | (simp only [Conds, rng, wrap_u8, wrap_u16, wrap_u32, wrap_u64] <;> omega)) ?_) | (refine MC.la true (la_load1 hs rfl (by rfl)) rfl ?_) | (refine MC.part rfl rfl (fun h => absurd h (by first | decide | omega)) (fun _ => ?_)) | (refine MC.part rfl rfl (fun _ => ?_) (fun h => absurd (by first | decide | omega) h)) | (refine MC.cond rfl (fun h => absurd h (by first | decide | omega)) (fun _ => ?_)) | (refine MC.cond rfl (fun _ => ?_) (fun h => absurd (by first | decide | omega) h)))
    refine MC.again (i + 1) ⟨?_, rfl, rfl, rfl, trivial⟩ ⟨hlt, rfl⟩ (by omega)
    refine congrArg (fun n => some (Value.int .u32 n)) ?_
    rw [hst, wrap_u32, e1]
    simp only [Int.toNat_natCast]
    omega
  · obtain rfl : i = l.length := by omega
    rw [List.take_length]
    repeat (first | (refine MC.run1 tab 1000 rfl rfl (by first | exact True.intro | (simp only [Conds, rng, Int.toNat_natCast, List.length_append, bytesV_length] <;> omega) | (simp [Conds, rng] <;> omega) | (simp only [Conds, rng, wrap_u8, wrap_u16, wrap_u32, wrap_u64] <;> omega)) ?_) | (refine MC.la true (la_load1 hs rfl (by rfl)) rfl ?_) | (refine MC.part rfl rfl (fun h => absurd h (by first | decide | omega)) (fun _ => ?_)) | (refine MC.part rfl rfl (fun _ => ?_) (fun h => absurd (by first | decide | omega) h)) | (refine MC.cond rfl (fun h => absurd h (by first | decide | omega)) (fun _ => ?_)) | (refine MC.cond rfl (fun _ => ?_) (fun h => absurd (by first | decide | omega) h)))
    refine MC.ret rfl ?_
    exact ⟨rfl, rfl⟩
theorem sum_spec {F : List Assn} {w : World} {vl : Value} {l : List UInt8} (hs : Sat F w) (hx : RdS F 1 vl l.length (bytesV l)) (hl : l.length ≤ 9223372036854775807) :
    Ret Try.prog 40 [vl] w fun v w' => v = u32 (sumOf l) ∧ w' = w := by
  obtain ⟨q, c, rfl, hc, _⟩ := hx.shape
  refine Ret.enter [(true, .slice q l.length c)] _ Try.func40 rfl Try.ntmps40 rfl ?_
  repeat (first | (refine MC.run1 tab 1000 rfl rfl (by first | exact True.intro | (simp only [Conds, rng, Int.toNat_natCast, List.length_append, bytesV_length] <;> omega) | (simp [Conds, rng] <;> omega) | (simp only [Conds, rng, wrap_u8, wrap_u16, wrap_u32, wrap_u64] <;> omega)) ?_) | (refine MC.la true (la_load1 hs rfl (by rfl)) rfl ?_) | (refine MC.part rfl rfl (fun h => absurd h (by first | decide | omega)) (fun _ => ?_)) | (refine MC.part rfl rfl (fun _ => ?_) (fun h => absurd (by first | decide | omega) h)) | (refine MC.cond rfl (fun h => absurd h (by first | decide | omega)) (fun _ => ?_)) | (refine MC.cond rfl (fun _ => ?_) (fun h => absurd (by first | decide | omega) h)))
  refine MC.does true (does_call rfl (more_spec (s := 2166136261) hs hx (by decide) hl)) rfl ?_
  rintro _ w' ⟨rfl, rfl⟩
  repeat (first | (refine MC.run1 tab 1000 rfl rfl (by first | exact True.intro | (simp only [Conds, rng, Int.toNat_natCast, List.length_append, bytesV_length] <;> omega) | (simp [Conds, rng] <;> omega) | (simp only [Conds, rng, wrap_u8, wrap_u16, wrap_u32, wrap_u64] <;> omega)) ?_) | (refine MC.la true (la_load1 hs rfl (by rfl)) rfl ?_) | (refine MC.part rfl rfl (fun h => absurd h (by first | decide | omega)) (fun _ => ?_)) | (refine MC.part rfl rfl (fun _ => ?_) (fun h => absurd (by first | decide | omega) h)) | (refine MC.cond rfl (fun h => absurd h (by first | decide | omega)) (fun _ => ?_)) | (refine MC.cond rfl (fun _ => ?_) (fun h => absurd (by first | decide | omega) h)))
  refine MC.ret rfl ?_
  exact ⟨rfl, rfl⟩
def get4 (l : List UInt8) (k : Nat) : Int := ((l.getD k 0).toNat : Int) + ((l.getD (k + 1) 0).toNat : Int) * 256 + ((l.getD (k + 2) 0).toNat : Int) * 65536 + ((l.getD (k + 3) 0).toNat : Int) * 16777216
theorem bytesV_atI (l : List UInt8) (n : Int) (k : Nat) (e : n = (k : Int)) (h : k < l.length) : (bytesV l)[n.toNat * 1]? = some (byte (l.getD k 0)) := by
  subst e
  rw [Int.toNat_natCast, Nat.mul_one]; simp [bytesV, h, List.getD_eq_getElem?_getD]
theorem get_spec {F : List Assn} {w : World} {vl : Value} {l : List UInt8} (k : Nat) (hs : Sat F w) (hx : RdS F 1 vl l.length (bytesV l)) (hk : k + 4 ≤ l.length) (hl : l.length ≤ 1000000) :
    Ret Try.prog 41 [vl, int (k : Int)] w fun v w' => v = int (get4 l k) ∧ Sat F w' := by
  obtain ⟨q, c, rfl, hc, _⟩ := hx.shape
  obtain ⟨b, o, rfl, hr⟩ := hx.at_ (by omega)
  have b0 := UInt8.toNat_lt (l.getD k 0)
  have b1 := UInt8.toNat_lt (l.getD (k + 1) 0)
  have b2 := UInt8.toNat_lt (l.getD (k + 2) 0)
  have b3 := UInt8.toNat_lt (l.getD (k + 3) 0)
  refine Ret.enter [(true, .slice (some ⟨b, o, none⟩) l.length c), (true, int (k : Int))] _ Try.func41 rfl Try.ntmps41 rfl ?_
  repeat (first | (refine MC.run1 tab 1000 rfl rfl (by first | exact True.intro | (simp only [Conds, rng, Int.toNat_natCast, List.length_append, bytesV_length] <;> omega) | (simp [Conds, rng] <;> omega) | (simp only [Conds, rng, wrap_u8, wrap_u16, wrap_u32, wrap_u64] <;> omega)) ?_) | (refine MC.la true (la_load1 hs rfl (by rfl)) rfl ?_) | (refine MC.part rfl rfl (fun h => absurd h (by first | decide | omega)) (fun _ => ?_)) | (refine MC.part rfl rfl (fun _ => ?_) (fun h => absurd (by first | decide | omega) h)) | (refine MC.cond rfl (fun h => absurd h (by first | decide | omega)) (fun _ => ?_)) | (refine MC.cond rfl (fun _ => ?_) (fun h => absurd (by first | decide | omega) h)))
  refine MC.draw hs [0,1,2,3,4,5,6,7,8,9,10,11,12,13,14,15,16,17,18,19,20,21,22,23,24,25,26,27,28,29] (by rfl) ?_; intro w hs
  repeat (first | (refine MC.run1 tab 1000 rfl rfl (by first | exact True.intro | (simp only [Conds, rng, Int.toNat_natCast, List.length_append, bytesV_length] <;> omega) | (simp [Conds, rng] <;> omega) | (simp only [Conds, rng, wrap_u8, wrap_u16, wrap_u32, wrap_u64] <;> omega)) ?_) | (refine MC.laD true (la_load1 hs rfl (by rfl)) rfl ?_) | (refine MC.part rfl rfl (fun h => absurd h (by first | decide | omega)) (fun _ => ?_)) | (refine MC.part rfl rfl (fun _ => ?_) (fun h => absurd (by first | decide | omega) h)) | (refine MC.cond rfl (fun h => absurd h (by first | decide | omega)) (fun _ => ?_)) | (refine MC.cond rfl (fun _ => ?_) (fun h => absurd (by first | decide | omega) h)))
  refine MC.laD true (la_load1_rd hr hs (j := (k : Int).toNat * 1) rfl (bytesV_atI l _ k rfl (by omega))) rfl ?_
  repeat (first | (refine MC.run1 tab 1000 rfl rfl (by first | exact True.intro | (simp only [Conds, rng, Int.toNat_natCast, List.length_append, bytesV_length] <;> omega) | (simp [Conds, rng] <;> omega) | (simp only [Conds, rng, wrap_u8, wrap_u16, wrap_u32, wrap_u64] <;> omega)) ?_) | (refine MC.laD true (la_load1 hs rfl (by rfl)) rfl ?_) | (refine MC.part rfl rfl (fun h => absurd h (by first | decide | omega)) (fun _ => ?_)) | (refine MC.part rfl rfl (fun _ => ?_) (fun h => absurd (by first | decide | omega) h)) | (refine MC.cond rfl (fun h => absurd h (by first | decide | omega)) (fun _ => ?_)) | (refine MC.cond rfl (fun _ => ?_) (fun h => absurd (by first | decide | omega) h)))
  refine MC.laD true (la_load1_rd hr hs (j := ((k : Int) + 1).toNat * 1) rfl (bytesV_atI l _ (k + 1) rfl (by omega))) rfl ?_
  repeat (first | (refine MC.run1 tab 1000 rfl rfl (by first | exact True.intro | (simp only [Conds, rng, Int.toNat_natCast, List.length_append, bytesV_length] <;> omega) | (simp [Conds, rng] <;> omega) | (simp only [Conds, rng, wrap_u8, wrap_u16, wrap_u32, wrap_u64] <;> omega)) ?_) | (refine MC.laD true (la_load1 hs rfl (by rfl)) rfl ?_) | (refine MC.part rfl rfl (fun h => absurd h (by first | decide | omega)) (fun _ => ?_)) | (refine MC.part rfl rfl (fun _ => ?_) (fun h => absurd (by first | decide | omega) h)) | (refine MC.cond rfl (fun h => absurd h (by first | decide | omega)) (fun _ => ?_)) | (refine MC.cond rfl (fun _ => ?_) (fun h => absurd (by first | decide | omega) h)))
  refine MC.pure (f := true) (po_bin rfl rfl (br_orS 8 (l.getD (k + 1) 0).toNat (by omega) (by omega) rfl (by rw [i64max]; omega))) rfl ?_
  repeat (first | (refine MC.run1 tab 1000 rfl rfl (by first | exact True.intro | (simp only [Conds, rng, Int.toNat_natCast, List.length_append, bytesV_length] <;> omega) | (simp [Conds, rng] <;> omega) | (simp only [Conds, rng, wrap_u8, wrap_u16, wrap_u32, wrap_u64] <;> omega)) ?_) | (refine MC.laD true (la_load1 hs rfl (by rfl)) rfl ?_) | (refine MC.part rfl rfl (fun h => absurd h (by first | decide | omega)) (fun _ => ?_)) | (refine MC.part rfl rfl (fun _ => ?_) (fun h => absurd (by first | decide | omega) h)) | (refine MC.cond rfl (fun h => absurd h (by first | decide | omega)) (fun _ => ?_)) | (refine MC.cond rfl (fun _ => ?_) (fun h => absurd (by first | decide | omega) h)))
  refine MC.laD true (la_load1_rd hr hs (j := ((k : Int) + 2).toNat * 1) rfl (bytesV_atI l _ (k + 2) rfl (by omega))) rfl ?_
  repeat (first | (refine MC.run1 tab 1000 rfl rfl (by first | exact True.intro | (simp only [Conds, rng, Int.toNat_natCast, List.length_append, bytesV_length] <;> omega) | (simp [Conds, rng] <;> omega) | (simp only [Conds, rng, wrap_u8, wrap_u16, wrap_u32, wrap_u64] <;> omega)) ?_) | (refine MC.laD true (la_load1 hs rfl (by rfl)) rfl ?_) | (refine MC.part rfl rfl (fun h => absurd h (by first | decide | omega)) (fun _ => ?_)) | (refine MC.part rfl rfl (fun _ => ?_) (fun h => absurd (by first | decide | omega) h)) | (refine MC.cond rfl (fun h => absurd h (by first | decide | omega)) (fun _ => ?_)) | (refine MC.cond rfl (fun _ => ?_) (fun h => absurd (by first | decide | omega) h)))
  refine MC.pure (f := true) (po_bin rfl rfl (br_orS 16 (l.getD (k + 2) 0).toNat (by omega) (by omega) rfl (by rw [i64max]; omega))) rfl ?_
  repeat (first | (refine MC.run1 tab 1000 rfl rfl (by first | exact True.intro | (simp only [Conds, rng, Int.toNat_natCast, List.length_append, bytesV_length] <;> omega) | (simp [Conds, rng] <;> omega) | (simp only [Conds, rng, wrap_u8, wrap_u16, wrap_u32, wrap_u64] <;> omega)) ?_) | (refine MC.laD true (la_load1 hs rfl (by rfl)) rfl ?_) | (refine MC.part rfl rfl (fun h => absurd h (by first | decide | omega)) (fun _ => ?_)) | (refine MC.part rfl rfl (fun _ => ?_) (fun h => absurd (by first | decide | omega) h)) | (refine MC.cond rfl (fun h => absurd h (by first | decide | omega)) (fun _ => ?_)) | (refine MC.cond rfl (fun _ => ?_) (fun h => absurd (by first | decide | omega) h)))
  refine MC.laD true (la_load1_rd hr hs (j := ((k : Int) + 3).toNat * 1) rfl (bytesV_atI l _ (k + 3) rfl (by omega))) rfl ?_
  repeat (first | (refine MC.run1 tab 1000 rfl rfl (by first | exact True.intro | (simp only [Conds, rng, Int.toNat_natCast, List.length_append, bytesV_length] <;> omega) | (simp [Conds, rng] <;> omega) | (simp only [Conds, rng, wrap_u8, wrap_u16, wrap_u32, wrap_u64] <;> omega)) ?_) | (refine MC.laD true (la_load1 hs rfl (by rfl)) rfl ?_) | (refine MC.part rfl rfl (fun h => absurd h (by first | decide | omega)) (fun _ => ?_)) | (refine MC.part rfl rfl (fun _ => ?_) (fun h => absurd (by first | decide | omega) h)) | (refine MC.cond rfl (fun h => absurd h (by first | decide | omega)) (fun _ => ?_)) | (refine MC.cond rfl (fun _ => ?_) (fun h => absurd (by first | decide | omega) h)))
  refine MC.pure (f := true) (po_bin rfl rfl (br_orS 24 (l.getD (k + 3) 0).toNat (by omega) (by omega) rfl (by rw [i64max]; omega))) rfl ?_
  repeat (first | (refine MC.run1 tab 1000 rfl rfl (by first | exact True.intro | (simp only [Conds, rng, Int.toNat_natCast, List.length_append, bytesV_length] <;> omega) | (simp [Conds, rng] <;> omega) | (simp only [Conds, rng, wrap_u8, wrap_u16, wrap_u32, wrap_u64] <;> omega)) ?_) | (refine MC.laD true (la_load1 hs rfl (by rfl)) rfl ?_) | (refine MC.part rfl rfl (fun h => absurd h (by first | decide | omega)) (fun _ => ?_)) | (refine MC.part rfl rfl (fun _ => ?_) (fun h => absurd (by first | decide | omega) h)) | (refine MC.cond rfl (fun h => absurd h (by first | decide | omega)) (fun _ => ?_)) | (refine MC.cond rfl (fun _ => ?_) (fun h => absurd (by first | decide | omega) h)))
  refine MC.ret rfl ?_
  exact ⟨rfl, hs⟩
theorem equal_spec {F : List Assn} {w : World} {va vb : Value} {l m : List UInt8} (hs : Sat F w) (hl : RdS F 1 va l.length (bytesV l)) (hm : RdS F 1 vb m.length (bytesV m)) :
    Ret Try.prog 42 [va, vb] w fun v w' => v = bool (decide (l = m)) ∧ w' = w := by
  obtain ⟨q, c, rfl, hc, _⟩ := hl.shape
  obtain ⟨q', c', rfl, hc', _⟩ := hm.shape
  refine Ret.enter [(true, .slice q l.length c), (true, .slice q' m.length c')] _ Try.func42 rfl Try.ntmps42 rfl ?_
  repeat (first | (refine MC.run1 tab 1000 rfl rfl (by first | exact True.intro | (simp only [Conds, rng, Int.toNat_natCast, List.length_append, bytesV_length] <;> omega) | (simp [Conds, rng] <;> omega) | (simp only [Conds, rng, wrap_u8, wrap_u16, wrap_u32, wrap_u64] <;> omega)) ?_) | (refine MC.la true (la_load1 hs rfl (by rfl)) rfl ?_) | (refine MC.part rfl rfl (fun h => absurd h (by first | decide | omega)) (fun _ => ?_)) | (refine MC.part rfl rfl (fun _ => ?_) (fun h => absurd (by first | decide | omega) h)) | (refine MC.cond rfl (fun h => absurd h (by first | decide | omega)) (fun _ => ?_)) | (refine MC.cond rfl (fun _ => ?_) (fun h => absurd (by first | decide | omega) h)))
  refine MC.la true (la_tostr rfl hl hs) rfl ?_
  repeat (first | (refine MC.run1 tab 1000 rfl rfl (by first | exact True.intro | (simp only [Conds, rng, Int.toNat_natCast, List.length_append, bytesV_length] <;> omega) | (simp [Conds, rng] <;> omega) | (simp only [Conds, rng, wrap_u8, wrap_u16, wrap_u32, wrap_u64] <;> omega)) ?_) | (refine MC.la true (la_load1 hs rfl (by rfl)) rfl ?_) | (refine MC.part rfl rfl (fun h => absurd h (by first | decide | omega)) (fun _ => ?_)) | (refine MC.part rfl rfl (fun _ => ?_) (fun h => absurd (by first | decide | omega) h)) | (refine MC.cond rfl (fun h => absurd h (by first | decide | omega)) (fun _ => ?_)) | (refine MC.cond rfl (fun _ => ?_) (fun h => absurd (by first | decide | omega) h)))
  refine MC.la true (la_tostr rfl hm hs) rfl ?_
  repeat (first | (refine MC.run1 tab 1000 rfl rfl (by first | exact True.intro | (simp only [Conds, rng, Int.toNat_natCast, List.length_append, bytesV_length] <;> omega) | (simp [Conds, rng] <;> omega) | (simp only [Conds, rng, wrap_u8, wrap_u16, wrap_u32, wrap_u64] <;> omega)) ?_) | (refine MC.la true (la_load1 hs rfl (by rfl)) rfl ?_) | (refine MC.part rfl rfl (fun h => absurd h (by first | decide | omega)) (fun _ => ?_)) | (refine MC.part rfl rfl (fun _ => ?_) (fun h => absurd (by first | decide | omega) h)) | (refine MC.cond rfl (fun h => absurd h (by first | decide | omega)) (fun _ => ?_)) | (refine MC.cond rfl (fun _ => ?_) (fun h => absurd (by first | decide | omega) h)))
  refine MC.ret rfl ?_
  exact ⟨rfl, rfl⟩
def headB (which epoch : Int) (f : List Int) : List UInt8 := le4 epoch ++ [byteOf which, byteOf f.length] ++ f.flatMap le4
def bodyB (which epoch : Int) (f : List Int) : List UInt8 := headB which epoch f ++ many (248 - (headB which epoch f).length) 0
def sectorB (which epoch : Int) (f : List Int) : List UInt8 := bodyB which epoch f ++ [(sumOf (bodyB which epoch f) : Int), epoch].flatMap le4
theorem headB_length (which epoch : Int) (f : List Int) : (headB which epoch f).length = 6 + f.length * 4 := by
  simp only [headB, List.length_append, le4_all, le4_length, List.length_cons, List.length_nil]
theorem bodyB_length {which epoch : Int} {f : List Int} (hf : f.length ≤ 40) : (bodyB which epoch f).length = 248 := by
  simp only [bodyB, List.length_append, headB_length, many_length]; omega
theorem sectorB_length {which epoch : Int} {f : List Int} (hf : f.length ≤ 40) : (sectorB which epoch f).length = 256 := by
  simp only [sectorB, List.length_append, bodyB_length hf, le4_all, List.length_cons, List.length_nil]
theorem sector_spec {F : List Assn} {w : World} {vl : Value} {f : List Int} (which epoch : Int) (hs : Sat F w) (hx : RdS F 1 vl f.length (intsV f)) (hf : f.length ≤ 40) :
    Ret Try.prog 36 [int which, int epoch, vl] w fun v w' => Sat (sl v 5 1 256 (bytesV (sectorB which epoch f)) :: F) w' := by
  obtain ⟨q, c, rfl, hc, _⟩ := hx.shape
  refine Ret.enter [(true, int which), (true, int epoch), (true, .slice q f.length c)] _ Try.func36 rfl Try.ntmps36 rfl ?_
  repeat (first | (refine MC.run1 tab 1000 rfl rfl (by first | exact True.intro | (simp only [Conds, rng, Int.toNat_natCast, List.length_append, bytesV_length] <;> omega) | (simp [Conds, rng] <;> omega) | (simp only [Conds, rng, wrap_u8, wrap_u16, wrap_u32, wrap_u64] <;> omega)) ?_) | (refine MC.la true (la_load1 hs rfl (by rfl)) rfl ?_) | (refine MC.part rfl rfl (fun h => absurd h (by first | decide | omega)) (fun _ => ?_)) | (refine MC.part rfl rfl (fun _ => ?_) (fun h => absurd (by first | decide | omega) h)) | (refine MC.cond rfl (fun h => absurd h (by first | decide | omega)) (fun _ => ?_)) | (refine MC.cond rfl (fun _ => ?_) (fun h => absurd (by first | decide | omega) h)))
  refine MC.does true (does_buildL hs rfl rfl rfl (by first | (intro u hu; simp only [List.mem_cons, List.not_mem_nil, or_false] at hu; rcases hu with rfl | rfl | rfl | rfl | rfl | rfl | rfl | rfl <;> rfl) | (intro u hu; simp only [List.mem_cons, List.not_mem_nil, or_false] at hu; rcases hu with rfl | rfl | rfl | rfl <;> rfl) | (intro u hu; simp only [List.mem_cons, List.not_mem_nil, or_false] at hu; rcases hu with rfl | rfl <;> rfl) | (intro u hu; simp only [List.mem_cons, List.not_mem_nil, or_false] at hu; subst hu; rfl)) rfl) rfl ?_; rintro _ w ⟨b1, rfl, hs⟩
  have hs := hs.sl_nil 5 1
  refine MC.does true (does_call rfl (put_spec (l := []) (xs := [epoch]) hs ⟨_, _, rfl, Nat.le_refl _, rfl, fun _ => ⟨b1, 0, rfl, Rd.of_at⟩⟩ (by simp))) rfl ?_
  intro v1 w hs
  have e1 : [] ++ [epoch].flatMap le4 = le4 epoch := by simp
  rw [e1] at hs
  have hs := hs.pickF 2 [0] rfl rfl
  obtain ⟨_, q1, c1, rfl, _⟩ := hs.sl_len
  repeat (first | (refine MC.run1 tab 1000 rfl rfl (by first | exact True.intro | (simp only [Conds, rng, Int.toNat_natCast, List.length_append, bytesV_length] <;> omega) | (simp [Conds, rng] <;> omega) | (simp only [Conds, rng, wrap_u8, wrap_u16, wrap_u32, wrap_u64] <;> omega)) ?_) | (refine MC.la true (la_load1 hs rfl (by rfl)) rfl ?_) | (refine MC.part rfl rfl (fun h => absurd h (by first | decide | omega)) (fun _ => ?_)) | (refine MC.part rfl rfl (fun _ => ?_) (fun h => absurd (by first | decide | omega) h)) | (refine MC.cond rfl (fun h => absurd h (by first | decide | omega)) (fun _ => ?_)) | (refine MC.cond rfl (fun _ => ?_) (fun h => absurd (by first | decide | omega) h)))
  rw [byteOf_wrap, byteOf_wrap]
  refine MC.does true (does_buildL hs rfl rfl rfl (by first | (intro u hu; simp only [List.mem_cons, List.not_mem_nil, or_false] at hu; rcases hu with rfl | rfl | rfl | rfl | rfl | rfl | rfl | rfl <;> rfl) | (intro u hu; simp only [List.mem_cons, List.not_mem_nil, or_false] at hu; rcases hu with rfl | rfl | rfl | rfl <;> rfl) | (intro u hu; simp only [List.mem_cons, List.not_mem_nil, or_false] at hu; rcases hu with rfl | rfl <;> rfl) | (intro u hu; simp only [List.mem_cons, List.not_mem_nil, or_false] at hu; subst hu; rfl)) rfl) rfl ?_; rintro _ w ⟨b2, rfl, hs⟩
  refine MC.does true (does_append hs rfl rfl (src_at rfl (bytesV_one [byteOf which, byteOf f.length])) (by simp) (by simp)) rfl ?_
  intro v2 w hs
  have hs := hs.pickF 2 [1] rfl rfl
  rw [← bytesV_append] at hs
  obtain ⟨_, q2, c2, rfl, _⟩ := hs.sl_len
  repeat (first | (refine MC.run1 tab 1000 rfl rfl (by first | exact True.intro | (simp only [Conds, rng, Int.toNat_natCast, List.length_append, bytesV_length] <;> omega) | (simp [Conds, rng] <;> omega) | (simp only [Conds, rng, wrap_u8, wrap_u16, wrap_u32, wrap_u64] <;> omega)) ?_) | (refine MC.la true (la_load1 hs rfl (by rfl)) rfl ?_) | (refine MC.part rfl rfl (fun h => absurd h (by first | decide | omega)) (fun _ => ?_)) | (refine MC.part rfl rfl (fun _ => ?_) (fun h => absurd (by first | decide | omega) h)) | (refine MC.cond rfl (fun h => absurd h (by first | decide | omega)) (fun _ => ?_)) | (refine MC.cond rfl (fun _ => ?_) (fun h => absurd (by first | decide | omega) h)))
  refine MC.does true (does_call rfl (put_spec (l := le4 epoch ++ [byteOf which, byteOf f.length]) (xs := f) hs hx (by simp; omega))) rfl ?_
  intro v3 w hs
  obtain ⟨_, q3, c3, rfl, _⟩ := hs.sl_len
  have hhl := headB_length which epoch f
  have hs : Sat (sl (.slice q3 (headB which epoch f).length c3) 5 1 (headB which epoch f).length (bytesV (headB which epoch f)) :: F) w := hs
  have eh : le4 epoch ++ [byteOf which, byteOf f.length] ++ f.flatMap le4 = headB which epoch f := rfl
  rw [eh]
  have hbb : bytesV (headB which epoch f) ++ rep (248 - (headB which epoch f).length) [.int .u8 0] = bytesV (bodyB which epoch f) := by
    rw [rep_one', ← bytesV_zeros, ← bytesV_append]; rfl
  have hbl := bodyB_length (which := which) (epoch := epoch) hf
  have hH : (headB which epoch f).length + (248 - (headB which epoch f).length) = (bodyB which epoch f).length := by omega
  repeat (first | (refine MC.run1 tab 1000 rfl rfl (by first | exact True.intro | (simp only [Conds, rng, Int.toNat_natCast, List.length_append, bytesV_length] <;> omega) | (simp [Conds, rng] <;> omega) | (simp only [Conds, rng, wrap_u8, wrap_u16, wrap_u32, wrap_u64] <;> omega)) ?_) | (refine MC.la true (la_load1 hs rfl (by rfl)) rfl ?_) | (refine MC.part rfl rfl (fun h => absurd h (by first | decide | omega)) (fun _ => ?_)) | (refine MC.part rfl rfl (fun _ => ?_) (fun h => absurd (by first | decide | omega) h)) | (refine MC.cond rfl (fun h => absurd h (by first | decide | omega)) (fun _ => ?_)) | (refine MC.cond rfl (fun _ => ?_) (fun h => absurd (by first | decide | omega) h)))
  refine MC.does true (does_append0 (m := 248 - (headB which epoch f).length) hs rfl rfl (by omega) rfl (by omega) (by omega)) rfl ?_
  intro v4 w hs
  rw [hbb, hH] at hs
  obtain ⟨_, q4, c4, rfl, _⟩ := hs.sl_len
  have hsum := sumOf_lt (bodyB which epoch f)
  repeat (first | (refine MC.run1 tab 1000 rfl rfl (by first | exact True.intro | (simp only [Conds, rng, Int.toNat_natCast, List.length_append, bytesV_length] <;> omega) | (simp [Conds, rng] <;> omega) | (simp only [Conds, rng, wrap_u8, wrap_u16, wrap_u32, wrap_u64] <;> omega)) ?_) | (refine MC.la true (la_load1 hs rfl (by rfl)) rfl ?_) | (refine MC.part rfl rfl (fun h => absurd h (by first | decide | omega)) (fun _ => ?_)) | (refine MC.part rfl rfl (fun _ => ?_) (fun h => absurd (by first | decide | omega) h)) | (refine MC.cond rfl (fun h => absurd h (by first | decide | omega)) (fun _ => ?_)) | (refine MC.cond rfl (fun _ => ?_) (fun h => absurd (by first | decide | omega) h)))
  refine MC.does true (does_call rfl (sum_spec hs (RdS.of_sl hs) (by omega))) rfl ?_
  rintro _ w' ⟨rfl, rfl⟩
  repeat (first | (refine MC.run1 tab 1000 rfl rfl (by first | exact True.intro | (simp only [Conds, rng, Int.toNat_natCast, List.length_append, bytesV_length] <;> omega) | (simp [Conds, rng] <;> omega) | (simp only [Conds, rng, wrap_u8, wrap_u16, wrap_u32, wrap_u64] <;> omega)) ?_) | (refine MC.la true (la_load1 hs rfl (by rfl)) rfl ?_) | (refine MC.part rfl rfl (fun h => absurd h (by first | decide | omega)) (fun _ => ?_)) | (refine MC.part rfl rfl (fun _ => ?_) (fun h => absurd (by first | decide | omega) h)) | (refine MC.cond rfl (fun h => absurd h (by first | decide | omega)) (fun _ => ?_)) | (refine MC.cond rfl (fun _ => ?_) (fun h => absurd (by first | decide | omega) h)))
  refine MC.does true (does_buildL hs rfl rfl rfl (by first | (intro u hu; simp only [List.mem_cons, List.not_mem_nil, or_false] at hu; rcases hu with rfl | rfl | rfl | rfl | rfl | rfl | rfl | rfl <;> rfl) | (intro u hu; simp only [List.mem_cons, List.not_mem_nil, or_false] at hu; rcases hu with rfl | rfl | rfl | rfl <;> rfl) | (intro u hu; simp only [List.mem_cons, List.not_mem_nil, or_false] at hu; rcases hu with rfl | rfl <;> rfl) | (intro u hu; simp only [List.mem_cons, List.not_mem_nil, or_false] at hu; subst hu; rfl)) rfl) rfl ?_; rintro _ w ⟨b5, rfl, hs⟩
  have hs := hs.swap
  refine MC.does true (does_call rfl (put_spec (l := bodyB which epoch f) (xs := [(sumOf (bodyB which epoch f) : Int), epoch]) hs ⟨_, _, rfl, Nat.le_refl _, rfl, fun _ => ⟨b5, 0, rfl, Rd.of_at⟩⟩ (by rw [hbl]; simp))) rfl ?_
  intro v5 w hs
  have hs := hs.pickF 2 [0] rfl rfl
  repeat (first | (refine MC.run1 tab 1000 rfl rfl (by first | exact True.intro | (simp only [Conds, rng, Int.toNat_natCast, List.length_append, bytesV_length] <;> omega) | (simp [Conds, rng] <;> omega) | (simp only [Conds, rng, wrap_u8, wrap_u16, wrap_u32, wrap_u64] <;> omega)) ?_) | (refine MC.la true (la_load1 hs rfl (by rfl)) rfl ?_) | (refine MC.part rfl rfl (fun h => absurd h (by first | decide | omega)) (fun _ => ?_)) | (refine MC.part rfl rfl (fun _ => ?_) (fun h => absurd (by first | decide | omega) h)) | (refine MC.cond rfl (fun h => absurd h (by first | decide | omega)) (fun _ => ?_)) | (refine MC.cond rfl (fun _ => ?_) (fun h => absurd (by first | decide | omega) h)))
  refine MC.ret rfl ?_
  have hse := sectorB_length (which := which) (epoch := epoch) hf
  have hs : Sat (sl v5 5 1 (sectorB which epoch f).length (bytesV (sectorB which epoch f)) :: F) w := hs
  rw [hse] at hs
  exact hs
end Go.Proofs.Ytoljbocejclaeaa
