/- Journals: sums, numbers as bytes, records. -/
import Derived.Test.YtoigogonccjagaaDoorDevg
import Derived.Test.YtoigogonccjagaaDoorIf
import Derived.Test.YtoigogonccjagaaDoorJp
set_option linter.unusedVariables false
set_option linter.unusedSimpArgs false
namespace Go.Jn
theorem sumF_take {s : Nat} {l : Bs} {i : Nat} (hi : i < l.length) : sumF s (l.take (i + 1)) = (sumF s (l.take i) ^^^ l[i].toNat) * 16777619 % 4294967296 := by
  rw [List.take_add_one, List.getElem?_eq_getElem hi]
  show sumF s (l.take i ++ [l[i]]) = _
  unfold sumF
  rw [List.foldl_append, List.foldl_cons, List.foldl_nil]
theorem sumB_app (a b : Bs) : sumF (sumB a) b = sumB (a ++ b) := (sumF_append _ _ _).symm
theorem le_snoc : ∀ (k n : Nat), le (k + 1) n = le k n ++ [UInt8.ofNat (n / 256 ^ k)]
  | 0, n => by simp [le]
  | k + 1, n => by
    rw [le, le_snoc k (n / 256), le, Nat.div_div_eq_div_mul, Nat.pow_succ, Nat.mul_comm 256]; rfl
end Go.Jn
namespace Go.Proofs.YtoigogonccjagaaDoor
open Go Go.Sl Go.Jn
attribute [local irreducible] LooksAt

theorem bytesV_at (l : List UInt8) (i : Nat) (h : i < l.length) : (bytesV l)[((i : Nat) : Int).toNat * 1]? = some (byte l[i]) := by
  rw [Int.toNat_natCast, Nat.mul_one]; simp [bytesV, h]
theorem u8_wrap (n : Nat) : Value.int .u8 (IntKind.u8.wrap ((n : Nat) : Int)) = byte (UInt8.ofNat n) := by
  have e : (((UInt8.ofNat n).toNat : Nat) : Int) = ((n : Nat) : Int) % 256 := by rw [UInt8.toNat_ofNat']; omega
  rw [byte, e]
  simp [IntKind.wrap, IntKind.signed, IntKind.bits]
abbrev u32 (n : Nat) : Value := .int .u32 (n : Int)
theorem more_spec {F : List Assn} {w : World} {vl : Value} {l : List UInt8} {s : Nat} (hs : Sat F w) (hx : RdS F 1 vl l.length (bytesV l)) (h0 : s < 4294967296) (hl : l.length ≤ 9223372036854775807) :
    Ret Tryd.prog 38 [u32 s, vl] w fun v w' => v = u32 (sumF s l) ∧ w' = w := by
  obtain ⟨q, c, rfl, hc, _⟩ := hx.shape
  refine Ret.enter [(true, u32 s), (true, .slice q l.length c)] _ Tryd.func38 rfl Tryd.ntmps38 rfl ?_
  repeat (first | (refine MC.run1 tab 1000 rfl rfl (by first | exact True.intro | (simp only [Conds, rng, Int.toNat_natCast, List.length_append, bytesV_length] <;> omega) | (simp [Conds, rng] <;> omega) | (simp only [Conds, rng, wrap_u8, wrap_u16, wrap_u32, wrap_u64] <;> omega)) ?_) | (refine MC.la true (la_load1 hs rfl (by rfl)) rfl ?_) | (refine MC.part rfl rfl (fun h => absurd h (by first | decide | omega)) (fun _ => ?_)) | (refine MC.part rfl rfl (fun _ => ?_) (fun h => absurd (by first | decide | omega) h)) | (refine MC.cond rfl (fun h => absurd h (by first | decide | omega)) (fun _ => ?_)) | (refine MC.cond rfl (fun _ => ?_) (fun h => absurd (by first | decide | omega) h)))
  refine MC.loop (σ := Nat) (fun i => [(0, true, u32 (sumF s (l.take i))), (7, true, .slice q l.length c), (8, true, int l.length), (9, true, int ((i : Nat) : Int))])
    (fun i w' => i ≤ l.length ∧ w' = w) (fun i => l.length - i) 0 (by repeat (first | exact trivial | refine ⟨rfl, ?_⟩)) ⟨by omega, rfl⟩ ?_
  rintro i w' ⟨hi, rfl⟩
  have hlt := sumF_lt h0 (l.take i)
  repeat (first | (refine MC.run1 tab 1000 rfl rfl (by first | exact True.intro | (simp only [Conds, rng, Int.toNat_natCast, List.length_append, bytesV_length] <;> omega) | (simp [Conds, rng] <;> omega) | (simp only [Conds, rng, wrap_u8, wrap_u16, wrap_u32, wrap_u64] <;> omega)) ?_) | (refine MC.la true (la_load1 hs rfl (by rfl)) rfl ?_) | (refine MC.part rfl rfl (fun h => absurd h (by first | decide | omega)) (fun _ => ?_)) | (refine MC.part rfl rfl (fun _ => ?_) (fun h => absurd (by first | decide | omega) h)) | (refine MC.cond rfl (fun h => absurd h (by first | decide | omega)) (fun _ => ?_)) | (refine MC.cond rfl (fun _ => ?_) (fun h => absurd (by first | decide | omega) h)))
  refine MC.cond rfl (fun hl1 => ?_) (fun hge => ?_)
  · have hl1 : i < l.length := by omega
    obtain ⟨b, o, rfl, hr⟩ := hx.at_ (by omega)
    have hc8 := UInt8.toNat_lt l[i]
    repeat (first | (refine MC.run1 tab 1000 rfl rfl (by first | exact True.intro | (simp only [Conds, rng, Int.toNat_natCast, List.length_append, bytesV_length] <;> omega) | (simp [Conds, rng] <;> omega) | (simp only [Conds, rng, wrap_u8, wrap_u16, wrap_u32, wrap_u64] <;> omega)) ?_) | (refine MC.la true (la_load1 hs rfl (by rfl)) rfl ?_) | (refine MC.part rfl rfl (fun h => absurd h (by first | decide | omega)) (fun _ => ?_)) | (refine MC.part rfl rfl (fun _ => ?_) (fun h => absurd (by first | decide | omega) h)) | (refine MC.cond rfl (fun h => absurd h (by first | decide | omega)) (fun _ => ?_)) | (refine MC.cond rfl (fun _ => ?_) (fun h => absurd (by first | decide | omega) h)))
    refine MC.la true (la_load1_rd hr hs (j := ((i : Nat) : Int).toNat * 1) rfl (bytesV_at l i hl1)) rfl ?_
    refine MC.run1 tab 1000 rfl rfl (by simp [Conds, rng, IntKind.max, IntKind.signed, IntKind.bits, wrap_u8, wrap_u16, wrap_u32, wrap_u64] <;> omega) ?_
    rw [show (IntKind.wrap .u32 ((l[i].toNat : Nat) : Int)).toNat = l[i].toNat by rw [wrap_u32]; omega]
    have hx2 : sumF s (l.take i) ^^^ l[i].toNat < 4294967296 := Nat.xor_lt_two_pow (n := 32) (by omega) (by omega)
    have e : IntKind.wrap .u32 ((((sumF s (l.take i)) ^^^ l[i].toNat : Nat) : Int) * 16777619) = ((sumF s (l.take (i + 1)) : Nat) : Int) := by
      rw [wrap_u32, sumF_take hl1]; omega
    rw [show (((sumF s (l.take i) : Nat) : Int)).toNat = sumF s (l.take i) from rfl, e]
    refine MC.again (i + 1) (by repeat (first | exact trivial | refine ⟨rfl, ?_⟩)) ⟨hl1, rfl⟩ (by omega)
  · obtain rfl : i = l.length := by omega
    rw [List.take_length]
    repeat (first | (refine MC.run1 tab 1000 rfl rfl (by first | exact True.intro | (simp only [Conds, rng, Int.toNat_natCast, List.length_append, bytesV_length] <;> omega) | (simp [Conds, rng] <;> omega) | (simp only [Conds, rng, wrap_u8, wrap_u16, wrap_u32, wrap_u64] <;> omega)) ?_) | (refine MC.la true (la_load1 hs rfl (by rfl)) rfl ?_) | (refine MC.part rfl rfl (fun h => absurd h (by first | decide | omega)) (fun _ => ?_)) | (refine MC.part rfl rfl (fun _ => ?_) (fun h => absurd (by first | decide | omega) h)) | (refine MC.cond rfl (fun h => absurd h (by first | decide | omega)) (fun _ => ?_)) | (refine MC.cond rfl (fun _ => ?_) (fun h => absurd (by first | decide | omega) h)))
    refine MC.ret rfl ?_
    exact ⟨rfl, rfl⟩
theorem sum_spec {F : List Assn} {w : World} {vl : Value} {l : List UInt8} (hs : Sat F w) (hx : RdS F 1 vl l.length (bytesV l)) (hl : l.length ≤ 9223372036854775807) :
    Ret Tryd.prog 17 [vl] w fun v w' => v = u32 (sumB l) ∧ w' = w := by
  have hm := more_spec (s := 2166136261) hs hx (by decide) hl
  refine Ret.enter [(true, vl)] _ Tryd.func17 rfl Tryd.ntmps17 rfl ?_
  repeat (first | (refine MC.run1 tab 1000 rfl rfl (by first | exact True.intro | (simp only [Conds, rng, Int.toNat_natCast, List.length_append, bytesV_length] <;> omega) | (simp [Conds, rng] <;> omega) | (simp only [Conds, rng, wrap_u8, wrap_u16, wrap_u32, wrap_u64] <;> omega)) ?_) | (refine MC.la true (la_load1 hs rfl (by rfl)) rfl ?_) | (refine MC.part rfl rfl (fun h => absurd h (by first | decide | omega)) (fun _ => ?_)) | (refine MC.part rfl rfl (fun _ => ?_) (fun h => absurd (by first | decide | omega) h)) | (refine MC.cond rfl (fun h => absurd h (by first | decide | omega)) (fun _ => ?_)) | (refine MC.cond rfl (fun _ => ?_) (fun h => absurd (by first | decide | omega) h)))
  refine MC.does false (does_call rfl (hm)) rfl ?_
  rintro _ w' ⟨rfl, rfl⟩
  repeat (first | (refine MC.run1 tab 1000 rfl rfl (by first | exact True.intro | (simp only [Conds, rng, Int.toNat_natCast, List.length_append, bytesV_length] <;> omega) | (simp [Conds, rng] <;> omega) | (simp only [Conds, rng, wrap_u8, wrap_u16, wrap_u32, wrap_u64] <;> omega)) ?_) | (refine MC.la true (la_load1 hs rfl (by rfl)) rfl ?_) | (refine MC.part rfl rfl (fun h => absurd h (by first | decide | omega)) (fun _ => ?_)) | (refine MC.part rfl rfl (fun _ => ?_) (fun h => absurd (by first | decide | omega) h)) | (refine MC.cond rfl (fun h => absurd h (by first | decide | omega)) (fun _ => ?_)) | (refine MC.cond rfl (fun _ => ?_) (fun h => absurd (by first | decide | omega) h)))
  refine MC.ret rfl ?_
  exact ⟨rfl, rfl⟩
theorem put_spec {F : List Assn} {w : World} {vb : Value} {l : List UInt8} {n k : Nat} (hs : Sat (sl vb 5 1 l.length (bytesV l) :: F) w) (hk : k ≤ 8) (hn : n ≤ 9223372036854775807) (hl : l.length ≤ 100000000) :
    Ret Tryd.prog 54 [vb, int ((n : Nat) : Int), int ((k : Nat) : Int)] w fun v w' => Sat (sl v 5 1 (l ++ le k n).length (bytesV (l ++ le k n)) :: F) w' := by
  refine Ret.enter [(true, vb), (true, int ((n : Nat) : Int)), (true, int ((k : Nat) : Int))] _ Tryd.func54 rfl Tryd.ntmps54 rfl ?_
  repeat (first | (refine MC.run1 tab 1000 rfl rfl (by first | exact True.intro | (simp only [Conds, rng, Int.toNat_natCast, List.length_append, bytesV_length] <;> omega) | (simp [Conds, rng] <;> omega) | (simp only [Conds, rng, wrap_u8, wrap_u16, wrap_u32, wrap_u64] <;> omega)) ?_) | (refine MC.la true (la_load1 hs rfl (by rfl)) rfl ?_) | (refine MC.part rfl rfl (fun h => absurd h (by first | decide | omega)) (fun _ => ?_)) | (refine MC.part rfl rfl (fun _ => ?_) (fun h => absurd (by first | decide | omega) h)) | (refine MC.cond rfl (fun h => absurd h (by first | decide | omega)) (fun _ => ?_)) | (refine MC.cond rfl (fun _ => ?_) (fun h => absurd (by first | decide | omega) h)))
  refine MC.loop (σ := Nat × Value) (fun x => [(0, true, x.2), (1, true, int ((n / 256 ^ x.1 : Nat) : Int)), (7, true, int ((k : Nat) : Int)), (8, true, int ((x.1 : Nat) : Int))])
    (fun x w => x.1 ≤ k ∧ Sat (sl x.2 5 1 (l ++ le x.1 n).length (bytesV (l ++ le x.1 n)) :: F) w) (fun x => k - x.1) (0, vb) (by rw [Nat.pow_zero, Nat.div_one]; exact (by repeat (first | exact trivial | refine ⟨rfl, ?_⟩))) ⟨by omega, by simpa [le] using hs⟩ ?_
  rintro ⟨i, v⟩ w hx
  clear hs
  replace hx : i ≤ k ∧ Sat (sl v 5 1 (l ++ le i n).length (bytesV (l ++ le i n)) :: F) w := hx
  obtain ⟨hi, hs⟩ := hx
  dsimp only []
  have hll : (l ++ le i n).length = l.length + i := by simp
  rcases Nat.lt_or_ge i k with hlt | hge
  · have hdn : n / 256 ^ i ≤ 9223372036854775807 := Nat.le_trans (Nat.div_le_self _ _) hn
    repeat (first | (refine MC.run1 tab 1000 rfl rfl (by first | exact True.intro | (simp only [Conds, rng, Int.toNat_natCast, List.length_append, bytesV_length] <;> omega) | (simp [Conds, rng] <;> omega) | (simp only [Conds, rng, wrap_u8, wrap_u16, wrap_u32, wrap_u64] <;> omega)) ?_) | (refine MC.la true (la_load1 hs rfl (by rfl)) rfl ?_) | (refine MC.part rfl rfl (fun h => absurd h (by first | decide | omega)) (fun _ => ?_)) | (refine MC.part rfl rfl (fun _ => ?_) (fun h => absurd (by first | decide | omega) h)) | (refine MC.cond rfl (fun h => absurd h (by first | decide | omega)) (fun _ => ?_)) | (refine MC.cond rfl (fun _ => ?_) (fun h => absurd (by first | decide | omega) h)))
    rw [u8_wrap]
    refine MC.does true (does_buildL hs rfl rfl rfl (by first | (intro u hu; simp only [List.mem_cons, List.not_mem_nil, or_false] at hu; rcases hu with rfl | rfl | rfl | rfl | rfl | rfl | rfl | rfl <;> rfl) | (intro u hu; simp only [List.mem_cons, List.not_mem_nil, or_false] at hu; rcases hu with rfl | rfl | rfl | rfl <;> rfl) | (intro u hu; simp only [List.mem_cons, List.not_mem_nil, or_false] at hu; rcases hu with rfl | rfl <;> rfl) | (intro u hu; simp only [List.mem_cons, List.not_mem_nil, or_false] at hu; subst hu; rfl)) rfl) rfl ?_; rintro _ w ⟨b1, rfl, hs⟩
    refine MC.does true (does_append hs rfl rfl (src_at rfl (bytesV_one [UInt8.ofNat (n / 256 ^ i)])) (by omega) (by omega)) rfl ?_
    intro va w hs
    repeat (first | (refine MC.run1 tab 1000 rfl rfl (by first | exact True.intro | (simp only [Conds, rng, Int.toNat_natCast, List.length_append, bytesV_length] <;> omega) | (simp [Conds, rng] <;> omega) | (simp only [Conds, rng, wrap_u8, wrap_u16, wrap_u32, wrap_u64] <;> omega)) ?_) | (refine MC.la true (la_load1 hs rfl (by rfl)) rfl ?_) | (refine MC.part rfl rfl (fun h => absurd h (by first | decide | omega)) (fun _ => ?_)) | (refine MC.part rfl rfl (fun _ => ?_) (fun h => absurd (by first | decide | omega) h)) | (refine MC.cond rfl (fun h => absurd h (by first | decide | omega)) (fun _ => ?_)) | (refine MC.cond rfl (fun _ => ?_) (fun h => absurd (by first | decide | omega) h)))
    have e : ((n / 256 ^ i : Nat) : Int) / 256 = ((n / 256 ^ (i + 1) : Nat) : Int) := by
      rw [Nat.pow_succ, ← Nat.div_div_eq_div_mul]; omega
    rw [e]
    refine MC.again (i + 1, va) (by repeat (first | exact trivial | refine ⟨rfl, ?_⟩)) ⟨hlt, ?_⟩ (by show k - (i + 1) < k - i; omega)
    show Sat (sl va _ 1 (l ++ le (i + 1) n).length (bytesV (l ++ le (i + 1) n)) :: F) w
    have e2 : l ++ le (i + 1) n = (l ++ le i n) ++ [UInt8.ofNat (n / 256 ^ i)] := by rw [le_snoc, List.append_assoc]
    have e3 : ((l ++ le i n) ++ [UInt8.ofNat (n / 256 ^ i)]).length = (l ++ le i n).length + 1 := List.length_append
    rw [e2, e3, bytesV_append]
    exact hs.tail
  · obtain rfl : i = k := by omega
    repeat (first | (refine MC.run1 tab 1000 rfl rfl (by first | exact True.intro | (simp only [Conds, rng, Int.toNat_natCast, List.length_append, bytesV_length] <;> omega) | (simp [Conds, rng] <;> omega) | (simp only [Conds, rng, wrap_u8, wrap_u16, wrap_u32, wrap_u64] <;> omega)) ?_) | (refine MC.la true (la_load1 hs rfl (by rfl)) rfl ?_) | (refine MC.part rfl rfl (fun h => absurd h (by first | decide | omega)) (fun _ => ?_)) | (refine MC.part rfl rfl (fun _ => ?_) (fun h => absurd (by first | decide | omega) h)) | (refine MC.cond rfl (fun h => absurd h (by first | decide | omega)) (fun _ => ?_)) | (refine MC.cond rfl (fun _ => ?_) (fun h => absurd (by first | decide | omega) h)))
    refine MC.ret rfl ?_
    exact hs
theorem get_spec {F : List Assn} {w : World} {vl : Value} {l : List UInt8} {n : Nat} (hs : Sat F w) (hn : n = l.length) (hx : RdS F 1 vl n (bytesV l)) (hl : l.length ≤ 4) :
    Ret Tryd.prog 57 [vl] w fun v w' => v = int ((un l : Nat) : Int) ∧ w' = w := by
  subst hn
  obtain ⟨q, c, rfl, hc, _⟩ := hx.shape
  refine Ret.enter [(true, .slice q l.length c)] _ Tryd.func57 rfl Tryd.ntmps57 rfl ?_
  repeat (first | (refine MC.run1 tab 1000 rfl rfl (by first | exact True.intro | (simp only [Conds, rng, Int.toNat_natCast, List.length_append, bytesV_length] <;> omega) | (simp [Conds, rng] <;> omega) | (simp only [Conds, rng, wrap_u8, wrap_u16, wrap_u32, wrap_u64] <;> omega)) ?_) | (refine MC.la true (la_load1 hs rfl (by rfl)) rfl ?_) | (refine MC.part rfl rfl (fun h => absurd h (by first | decide | omega)) (fun _ => ?_)) | (refine MC.part rfl rfl (fun _ => ?_) (fun h => absurd (by first | decide | omega) h)) | (refine MC.cond rfl (fun h => absurd h (by first | decide | omega)) (fun _ => ?_)) | (refine MC.cond rfl (fun _ => ?_) (fun h => absurd (by first | decide | omega) h)))
  refine MC.loop (σ := Nat) (fun j => [(0, true, .slice q l.length c), (3, true, int ((un (l.drop j) : Nat) : Int)), (4, true, int (((j : Nat) : Int) - 1))])
    (fun j w' => j ≤ l.length ∧ w' = w) (fun j => j) l.length (by rw [List.drop_length]; exact (by repeat (first | exact trivial | refine ⟨rfl, ?_⟩))) ⟨Nat.le_refl _, rfl⟩ ?_
  rintro j w' ⟨hj, rfl⟩
  have hul := un_lt (l.drop j)
  have hub : un (l.drop j) < 256 ^ 4 := Nat.lt_of_lt_of_le hul (Nat.pow_le_pow_right (by decide) (by rw [List.length_drop]; omega))
  rcases Nat.eq_zero_or_pos j with h0 | h0
  · subst h0
    rw [List.drop_zero] at hub ⊢
    repeat (first | (refine MC.run1 tab 1000 rfl rfl (by first | exact True.intro | (simp only [Conds, rng, Int.toNat_natCast, List.length_append, bytesV_length] <;> omega) | (simp [Conds, rng] <;> omega) | (simp only [Conds, rng, wrap_u8, wrap_u16, wrap_u32, wrap_u64] <;> omega)) ?_) | (refine MC.la true (la_load1 hs rfl (by rfl)) rfl ?_) | (refine MC.part rfl rfl (fun h => absurd h (by first | decide | omega)) (fun _ => ?_)) | (refine MC.part rfl rfl (fun _ => ?_) (fun h => absurd (by first | decide | omega) h)) | (refine MC.cond rfl (fun h => absurd h (by first | decide | omega)) (fun _ => ?_)) | (refine MC.cond rfl (fun _ => ?_) (fun h => absurd (by first | decide | omega) h)))
    refine MC.ret rfl ?_
    exact ⟨rfl, rfl⟩
  · obtain ⟨i, rfl⟩ : ∃ i, j = i + 1 := ⟨j - 1, by omega⟩
    have hil : i < l.length := by omega
    obtain ⟨b, o, rfl, hr⟩ := hx.at_ (by omega)
    have ei : ((i + 1 : Nat) : Int) - 1 = ((i : Nat) : Int) := by omega
    rw [ei]
    have hc8 := UInt8.toNat_lt l[i]
    have hb2 : un (l.drop (i + 1)) < 16777216 := by
      have h1 := Nat.lt_of_lt_of_le hul (Nat.pow_le_pow_right (show 0 < 256 by decide) (show (l.drop (i + 1)).length ≤ 3 by rw [List.length_drop]; omega))
      exact h1
    repeat (first | (refine MC.run1 tab 1000 rfl rfl (by first | exact True.intro | (simp only [Conds, rng, Int.toNat_natCast, List.length_append, bytesV_length] <;> omega) | (simp [Conds, rng] <;> omega) | (simp only [Conds, rng, wrap_u8, wrap_u16, wrap_u32, wrap_u64] <;> omega)) ?_) | (refine MC.la true (la_load1 hs rfl (by rfl)) rfl ?_) | (refine MC.part rfl rfl (fun h => absurd h (by first | decide | omega)) (fun _ => ?_)) | (refine MC.part rfl rfl (fun _ => ?_) (fun h => absurd (by first | decide | omega) h)) | (refine MC.cond rfl (fun h => absurd h (by first | decide | omega)) (fun _ => ?_)) | (refine MC.cond rfl (fun _ => ?_) (fun h => absurd (by first | decide | omega) h)))
    refine MC.la true (la_load1_rd hr hs (j := ((i : Nat) : Int).toNat * 1) rfl (bytesV_at l i hil)) rfl ?_
    repeat (first | (refine MC.run1 tab 1000 rfl rfl (by first | exact True.intro | (simp only [Conds, rng, Int.toNat_natCast, List.length_append, bytesV_length] <;> omega) | (simp [Conds, rng] <;> omega) | (simp only [Conds, rng, wrap_u8, wrap_u16, wrap_u32, wrap_u64] <;> omega)) ?_) | (refine MC.la true (la_load1 hs rfl (by rfl)) rfl ?_) | (refine MC.part rfl rfl (fun h => absurd h (by first | decide | omega)) (fun _ => ?_)) | (refine MC.part rfl rfl (fun _ => ?_) (fun h => absurd (by first | decide | omega) h)) | (refine MC.cond rfl (fun h => absurd h (by first | decide | omega)) (fun _ => ?_)) | (refine MC.cond rfl (fun _ => ?_) (fun h => absurd (by first | decide | omega) h)))
    refine MC.pure (f := true) (po_bin rfl rfl (br_orS' (k := .i64) 8 (un (l.drop (i + 1))) (by omega) (by omega) (by omega) (by simp [IntKind.max, IntKind.signed, IntKind.bits]; omega))) rfl ?_
    repeat (first | (refine MC.run1 tab 1000 rfl rfl (by first | exact True.intro | (simp only [Conds, rng, Int.toNat_natCast, List.length_append, bytesV_length] <;> omega) | (simp [Conds, rng] <;> omega) | (simp only [Conds, rng, wrap_u8, wrap_u16, wrap_u32, wrap_u64] <;> omega)) ?_) | (refine MC.la true (la_load1 hs rfl (by rfl)) rfl ?_) | (refine MC.part rfl rfl (fun h => absurd h (by first | decide | omega)) (fun _ => ?_)) | (refine MC.part rfl rfl (fun _ => ?_) (fun h => absurd (by first | decide | omega) h)) | (refine MC.cond rfl (fun h => absurd h (by first | decide | omega)) (fun _ => ?_)) | (refine MC.cond rfl (fun _ => ?_) (fun h => absurd (by first | decide | omega) h)))
    have e : ((un (l.drop (i + 1)) : Nat) : Int) * 256 + ((l[i].toNat : Nat) : Int) = ((un (l.drop i) : Nat) : Int) := by
      rw [List.drop_eq_getElem_cons hil, un]; omega
    rw [e]
    refine MC.again i (by repeat (first | exact trivial | refine ⟨rfl, ?_⟩)) ⟨by omega, rfl⟩ (by omega)
end Go.Proofs.YtoigogonccjagaaDoor
