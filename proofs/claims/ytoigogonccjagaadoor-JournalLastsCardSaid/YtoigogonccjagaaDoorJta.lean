/- The document's records: digits, numbers, Record. | The document's records: Stands. | The document's device. | The document's device: New. | The document's device: Get, Stretch (where nothing is open). | Journals: what a loss leaves of a group, and what is read of it. No program stands here. -/
import Derived.Test.YtoigogonccjagaaDoorJk
import Derived.Test.YtoigogonccjagaaDoorCw
import Derived.Test.YtoigogonccjagaaDoorJj
set_option linter.unusedVariables false
set_option linter.unusedSimpArgs false

namespace Go.Proofs.YtoigogonccjagaaDoor
open Go Go.Sl Go.Jn
attribute [local irreducible] LooksAt sumB sumF

theorem u8_mod (n : Nat) : Value.int .u8 (IntKind.u8.wrap (((n : Nat) : Int) % 256)) = byte (UInt8.ofNat n) := by
  rw [← u8_wrap]
  simp [IntKind.wrap, IntKind.signed, IntKind.bits]
theorem digits_spec {F : List Assn} {w : World} {n k : Nat} (hs : Sat F w) (hk : k ≤ 8) (hn : n ≤ 9223372036854775807) :
    Ret Tryd.prog 59 [int ((n : Nat) : Int), int ((k : Nat) : Int)] w fun v w' => Sat (sl v 5 1 (le k n).length (bytesV (le k n)) :: F) w' := by
  refine Ret.enter [(true, int ((n : Nat) : Int)), (true, int ((k : Nat) : Int))] _ Tryd.func59 rfl Tryd.ntmps59 rfl ?_
  repeat (first | (refine MC.run1 tab 1000 rfl rfl (by first | exact True.intro | (simp only [Conds, rng, Int.toNat_natCast, List.length_append, bytesV_length] <;> omega) | (simp [Conds, rng] <;> omega) | (simp only [Conds, rng, wrap_u8, wrap_u16, wrap_u32, wrap_u64] <;> omega)) ?_) | (refine MC.la true (la_load1 hs rfl (by rfl)) rfl ?_) | (refine MC.part rfl rfl (fun h => absurd h (by first | decide | omega)) (fun _ => ?_)) | (refine MC.part rfl rfl (fun _ => ?_) (fun h => absurd (by first | decide | omega) h)) | (refine MC.cond rfl (fun h => absurd h (by first | decide | omega)) (fun _ => ?_)) | (refine MC.cond rfl (fun _ => ?_) (fun h => absurd (by first | decide | omega) h)))
  have hs : Sat (sl (.slice none 0 0) 5 1 (le 0 n).length (bytesV (le 0 n)) :: F) w := hs.sl_nil _ _
  refine MC.loop (σ := Nat × Value) (fun x => [(0, true, int ((n / 256 ^ x.1 : Nat) : Int)), (1, true, int ((k : Nat) : Int)), (5, true, x.2), (6, true, int ((x.1 : Nat) : Int))])
    (fun x w => x.1 ≤ k ∧ Sat (sl x.2 5 1 (le x.1 n).length (bytesV (le x.1 n)) :: F) w) (fun x => k - x.1) (0, .slice none 0 0) (by rw [Nat.pow_zero, Nat.div_one]; exact (by repeat (first | exact trivial | refine ⟨rfl, ?_⟩))) ⟨by omega, hs⟩ ?_
  rintro ⟨i, v⟩ w hx
  clear hs
  replace hx : i ≤ k ∧ Sat (sl v 5 1 (le i n).length (bytesV (le i n)) :: F) w := hx
  obtain ⟨hi, hs⟩ := hx
  dsimp only []
  have hll : (le i n).length = i := by simp
  rcases Nat.lt_or_ge i k with hlt | hge
  · have hdn : n / 256 ^ i ≤ 9223372036854775807 := Nat.le_trans (Nat.div_le_self _ _) hn
    have e : n / 256 ^ (i + 1) = n / 256 ^ i / 256 := by rw [Nat.pow_succ, ← Nat.div_div_eq_div_mul]
    have e3 : (le i n ++ [UInt8.ofNat (n / 256 ^ i)]).length = (le i n).length + 1 := List.length_append
    have esn := le_snoc i n
    obtain ⟨M, hM⟩ : ∃ M, n / 256 ^ i = M := ⟨_, rfl⟩
    rw [hM] at hdn e e3 esn ⊢
    repeat (first | (refine MC.run1 tab 1000 rfl rfl (by first | exact True.intro | (simp only [Conds, rng, Int.toNat_natCast, List.length_append, bytesV_length] <;> omega) | (simp [Conds, rng] <;> omega) | (simp only [Conds, rng, wrap_u8, wrap_u16, wrap_u32, wrap_u64] <;> omega)) ?_) | (refine MC.la true (la_load1 hs rfl (by rfl)) rfl ?_) | (refine MC.part rfl rfl (fun h => absurd h (by first | decide | omega)) (fun _ => ?_)) | (refine MC.part rfl rfl (fun _ => ?_) (fun h => absurd (by first | decide | omega) h)) | (refine MC.cond rfl (fun h => absurd h (by first | decide | omega)) (fun _ => ?_)) | (refine MC.cond rfl (fun _ => ?_) (fun h => absurd (by first | decide | omega) h)))
    rw [u8_mod]
    refine MC.does true (does_buildL hs rfl rfl rfl (by first | (intro u hu; simp only [List.mem_cons, List.not_mem_nil, or_false] at hu; rcases hu with rfl | rfl | rfl | rfl | rfl | rfl | rfl | rfl <;> rfl) | (intro u hu; simp only [List.mem_cons, List.not_mem_nil, or_false] at hu; rcases hu with rfl | rfl | rfl | rfl <;> rfl) | (intro u hu; simp only [List.mem_cons, List.not_mem_nil, or_false] at hu; rcases hu with rfl | rfl <;> rfl) | (intro u hu; simp only [List.mem_cons, List.not_mem_nil, or_false] at hu; subst hu; rfl)) rfl) rfl ?_; rintro _ w ⟨b1, rfl, hs⟩
    refine MC.does true (does_append hs rfl rfl (src_at rfl (bytesV_one [UInt8.ofNat M])) (by omega) (by omega)) rfl ?_
    intro va w hs
    repeat (first | (refine MC.run1 tab 1000 rfl rfl (by first | exact True.intro | (simp only [Conds, rng, Int.toNat_natCast, List.length_append, bytesV_length] <;> omega) | (simp [Conds, rng] <;> omega) | (simp only [Conds, rng, wrap_u8, wrap_u16, wrap_u32, wrap_u64] <;> omega)) ?_) | (refine MC.la true (la_load1 hs rfl (by rfl)) rfl ?_) | (refine MC.part rfl rfl (fun h => absurd h (by first | decide | omega)) (fun _ => ?_)) | (refine MC.part rfl rfl (fun _ => ?_) (fun h => absurd (by first | decide | omega) h)) | (refine MC.cond rfl (fun h => absurd h (by first | decide | omega)) (fun _ => ?_)) | (refine MC.cond rfl (fun _ => ?_) (fun h => absurd (by first | decide | omega) h)))
    have e4 : ((M : Nat) : Int) / 256 = ((M / 256 : Nat) : Int) := by omega
    rw [e4, ← e]
    refine MC.again (i + 1, va) (by repeat (first | exact trivial | refine ⟨rfl, ?_⟩)) ⟨hlt, ?_⟩ (by show k - (i + 1) < k - i; omega)
    show Sat (sl va _ 1 (le (i + 1) n).length (bytesV (le (i + 1) n)) :: F) w
    rw [esn, e3, bytesV_append]
    exact hs.tail
  · obtain rfl : i = k := by omega
    repeat (first | (refine MC.run1 tab 1000 rfl rfl (by first | exact True.intro | (simp only [Conds, rng, Int.toNat_natCast, List.length_append, bytesV_length] <;> omega) | (simp [Conds, rng] <;> omega) | (simp only [Conds, rng, wrap_u8, wrap_u16, wrap_u32, wrap_u64] <;> omega)) ?_) | (refine MC.la true (la_load1 hs rfl (by rfl)) rfl ?_) | (refine MC.part rfl rfl (fun h => absurd h (by first | decide | omega)) (fun _ => ?_)) | (refine MC.part rfl rfl (fun _ => ?_) (fun h => absurd (by first | decide | omega) h)) | (refine MC.cond rfl (fun h => absurd h (by first | decide | omega)) (fun _ => ?_)) | (refine MC.cond rfl (fun _ => ?_) (fun h => absurd (by first | decide | omega) h)))
    refine MC.ret rfl ?_
    exact hs
theorem number_spec {F : List Assn} {w : World} {l : Bs} (hs : Sat F w) (hl : l.length ≤ 4) :
    Ret Tryd.prog 60 [str l] w fun v w' => v = int ((un l : Nat) : Int) ∧ w' = w := by
  refine Ret.enter [(true, str l)] _ Tryd.func60 rfl Tryd.ntmps60 rfl ?_
  repeat (first | (refine MC.run1 tab 1000 rfl rfl (by first | exact True.intro | (simp only [Conds, rng, Int.toNat_natCast, List.length_append, bytesV_length] <;> omega) | (simp [Conds, rng] <;> omega) | (simp only [Conds, rng, wrap_u8, wrap_u16, wrap_u32, wrap_u64] <;> omega)) ?_) | (refine MC.la true (la_load1 hs rfl (by rfl)) rfl ?_) | (refine MC.part rfl rfl (fun h => absurd h (by first | decide | omega)) (fun _ => ?_)) | (refine MC.part rfl rfl (fun _ => ?_) (fun h => absurd (by first | decide | omega) h)) | (refine MC.cond rfl (fun h => absurd h (by first | decide | omega)) (fun _ => ?_)) | (refine MC.cond rfl (fun _ => ?_) (fun h => absurd (by first | decide | omega) h)))
  refine MC.loop (σ := Nat) (fun j => [(0, true, str l), (3, true, int ((un (l.drop j) : Nat) : Int)), (4, true, int (((j : Nat) : Int) - 1))])
    (fun j w' => j ≤ l.length ∧ w' = w) (fun j => j) l.length (by rw [List.drop_length]; exact (by repeat (first | exact trivial | refine ⟨rfl, ?_⟩))) ⟨Nat.le_refl _, rfl⟩ ?_
  rintro j w' ⟨hj, rfl⟩
  have hul := un_lt (l.drop j)
  have hub : un (l.drop j) < 256 ^ 4 := Nat.lt_of_lt_of_le hul (Nat.pow_le_pow_right (by decide) (by rw [List.length_drop]; omega))
  rcases Nat.eq_zero_or_pos j with h0 | h0
  · subst h0
    rw [List.drop_zero] at hub ⊢
    repeat (first | (refine MC.run1 tab 1000 rfl rfl (by first | exact True.intro | (simp only [Conds, rng, Int.toNat_natCast, List.length_append, bytesV_length] <;> omega) | (simp [Conds, rng] <;> omega) | (simp only [Conds, rng, wrap_u8, wrap_u16, wrap_u32, wrap_u64] <;> omega)) ?_) | (refine MC.la true (la_load1 hs rfl (by rfl)) rfl ?_) | (refine MC.part rfl rfl (fun h => absurd h (by first | decide | omega)) (fun _ => ?_)) | (refine MC.part rfl rfl (fun _ => ?_) (fun h => absurd (by first | decide | omega) h)) | (refine MC.cond rfl (fun h => absurd h (by first | decide | omega)) (fun _ => ?_)) | (refine MC.cond rfl (fun _ => ?_) (fun h => absurd (by first | decide | omega) h)))
    refine MC.ret rfl ?_
    exact ⟨rfl, rfl⟩
  · obtain ⟨i, rfl⟩ : ∃ i, j = i + 1 := ⟨j - 1, by omega⟩
    have hil : i < l.length := by omega
    have ei : ((i + 1 : Nat) : Int) - 1 = ((i : Nat) : Int) := by omega
    rw [ei]
    have hc8 := UInt8.toNat_lt l[i]
    have hb2 : un (l.drop (i + 1)) < 16777216 := by
      have h1 := Nat.lt_of_lt_of_le hul (Nat.pow_le_pow_right (show 0 < 256 by decide) (show (l.drop (i + 1)).length ≤ 3 by rw [List.length_drop]; omega))
      exact h1
    have ed : un (l.drop i) = l[i].toNat + 256 * un (l.drop (i + 1)) := by
      rw [List.drop_eq_getElem_cons hil]; rfl
    have hba : byteAt l ((i : Nat) : Int).toNat = ((l[i].toNat : Nat) : Int) := by
      rw [Int.toNat_natCast]; simp [byteAt, hil]
    repeat (first | (refine MC.run1 tab 1000 rfl rfl (by first | exact True.intro | (simp only [Conds, rng, Int.toNat_natCast, List.length_append, bytesV_length] <;> omega) | (simp [Conds, rng] <;> omega) | (simp only [Conds, rng, wrap_u8, wrap_u16, wrap_u32, wrap_u64] <;> omega)) ?_) | (refine MC.la true (la_load1 hs rfl (by rfl)) rfl ?_) | (refine MC.part rfl rfl (fun h => absurd h (by first | decide | omega)) (fun _ => ?_)) | (refine MC.part rfl rfl (fun _ => ?_) (fun h => absurd (by first | decide | omega) h)) | (refine MC.cond rfl (fun h => absurd h (by first | decide | omega)) (fun _ => ?_)) | (refine MC.cond rfl (fun _ => ?_) (fun h => absurd (by first | decide | omega) h)))
    have e : ((un (l.drop (i + 1)) : Nat) : Int) * 256 + byteAt l ((i : Nat) : Int).toNat = ((un (l.drop i) : Nat) : Int) := by rw [hba]; omega
    rw [e]
    refine MC.again i (by repeat (first | exact trivial | refine ⟨rfl, ?_⟩)) ⟨by omega, rfl⟩ (by omega)
/-- Record. -/
theorem rrecord_spec {F : List Assn} {w : World} {vl : Value} {b : Bs} {e n : Nat} (hs : Sat F w) (hx : RdS F 1 vl b.length (bytesV b)) (hb : b.length ≤ 65535) (he : e ≤ 4294967295) (hn : n ≤ 4294967295) :
    Ret Tryd.prog 43 [int ((e : Nat) : Int), int ((n : Nat) : Int), vl] w fun v w' => v = str (recB e n b) ∧ Sat F w' := by
  obtain ⟨q, c, rfl, hc, _⟩ := hx.shape
  refine Ret.enter [(true, int ((e : Nat) : Int)), (true, int ((n : Nat) : Int)), (true, .slice q b.length c)] _ Tryd.func43 rfl Tryd.ntmps43 rfl ?_
  have h1 := digits_spec (n := b.length) (k := 2) hs (by decide) (by omega)
  repeat (first | (refine MC.run1 tab 1000 rfl rfl (by first | exact True.intro | (simp only [Conds, rng, Int.toNat_natCast, List.length_append, bytesV_length] <;> omega) | (simp [Conds, rng] <;> omega) | (simp only [Conds, rng, wrap_u8, wrap_u16, wrap_u32, wrap_u64] <;> omega)) ?_) | (refine MC.la true (la_load1 hs rfl (by rfl)) rfl ?_) | (refine MC.part rfl rfl (fun h => absurd h (by first | decide | omega)) (fun _ => ?_)) | (refine MC.part rfl rfl (fun _ => ?_) (fun h => absurd (by first | decide | omega) h)) | (refine MC.cond rfl (fun h => absurd h (by first | decide | omega)) (fun _ => ?_)) | (refine MC.cond rfl (fun _ => ?_) (fun h => absurd (by first | decide | omega) h)))
  refine MC.does false (does_call rfl (h1)) rfl ?_
  intro v1 w hs
  have h2 := digits_spec (n := e) (k := 4) hs (by decide) (by omega)
  repeat (first | (refine MC.run1 tab 1000 rfl rfl (by first | exact True.intro | (simp only [Conds, rng, Int.toNat_natCast, List.length_append, bytesV_length] <;> omega) | (simp [Conds, rng] <;> omega) | (simp only [Conds, rng, wrap_u8, wrap_u16, wrap_u32, wrap_u64] <;> omega)) ?_) | (refine MC.la true (la_load1 hs rfl (by rfl)) rfl ?_) | (refine MC.part rfl rfl (fun h => absurd h (by first | decide | omega)) (fun _ => ?_)) | (refine MC.part rfl rfl (fun _ => ?_) (fun h => absurd (by first | decide | omega) h)) | (refine MC.cond rfl (fun h => absurd h (by first | decide | omega)) (fun _ => ?_)) | (refine MC.cond rfl (fun _ => ?_) (fun h => absurd (by first | decide | omega) h)))
  refine MC.does false (does_call rfl (h2)) rfl ?_
  intro v2 w hs
  have la : ∀ k m, (le k m).length = k := le_length
  repeat (first | (refine MC.run1 tab 1000 rfl rfl (by first | exact True.intro | (simp only [Conds, rng, Int.toNat_natCast, List.length_append, bytesV_length] <;> omega) | (simp [Conds, rng] <;> omega) | (simp only [Conds, rng, wrap_u8, wrap_u16, wrap_u32, wrap_u64] <;> omega)) ?_) | (refine MC.la true (la_load1 hs rfl (by rfl)) rfl ?_) | (refine MC.part rfl rfl (fun h => absurd h (by first | decide | omega)) (fun _ => ?_)) | (refine MC.part rfl rfl (fun _ => ?_) (fun h => absurd (by first | decide | omega) h)) | (refine MC.cond rfl (fun h => absurd h (by first | decide | omega)) (fun _ => ?_)) | (refine MC.cond rfl (fun _ => ?_) (fun h => absurd (by first | decide | omega) h)))
  refine MC.does true (does_append hs rfl rfl (RdS.src (RdS.of_sl hs) (bytesV_one _)) (by simp) (by simp)) rfl ?_
  intro v3 w hs
  rw [← bytesV_append, ← List.length_append] at hs
  have hs := hs.tail
  have h3 := digits_spec (n := n) (k := 4) hs (by decide) (by omega)
  repeat (first | (refine MC.run1 tab 1000 rfl rfl (by first | exact True.intro | (simp only [Conds, rng, Int.toNat_natCast, List.length_append, bytesV_length] <;> omega) | (simp [Conds, rng] <;> omega) | (simp only [Conds, rng, wrap_u8, wrap_u16, wrap_u32, wrap_u64] <;> omega)) ?_) | (refine MC.la true (la_load1 hs rfl (by rfl)) rfl ?_) | (refine MC.part rfl rfl (fun h => absurd h (by first | decide | omega)) (fun _ => ?_)) | (refine MC.part rfl rfl (fun _ => ?_) (fun h => absurd (by first | decide | omega) h)) | (refine MC.cond rfl (fun h => absurd h (by first | decide | omega)) (fun _ => ?_)) | (refine MC.cond rfl (fun _ => ?_) (fun h => absurd (by first | decide | omega) h)))
  refine MC.does false (does_call rfl (h3)) rfl ?_
  intro v4 w hs
  repeat (first | (refine MC.run1 tab 1000 rfl rfl (by first | exact True.intro | (simp only [Conds, rng, Int.toNat_natCast, List.length_append, bytesV_length] <;> omega) | (simp [Conds, rng] <;> omega) | (simp only [Conds, rng, wrap_u8, wrap_u16, wrap_u32, wrap_u64] <;> omega)) ?_) | (refine MC.la true (la_load1 hs rfl (by rfl)) rfl ?_) | (refine MC.part rfl rfl (fun h => absurd h (by first | decide | omega)) (fun _ => ?_)) | (refine MC.part rfl rfl (fun _ => ?_) (fun h => absurd (by first | decide | omega) h)) | (refine MC.cond rfl (fun h => absurd h (by first | decide | omega)) (fun _ => ?_)) | (refine MC.cond rfl (fun _ => ?_) (fun h => absurd (by first | decide | omega) h)))
  refine MC.does true (does_append hs rfl rfl (RdS.src (RdS.of_sl hs) (bytesV_one _)) (by simp) (by simp)) rfl ?_
  intro v5 w hs
  rw [← bytesV_append, ← List.length_append] at hs
  have hs := hs.tail
  have ehd : le 2 b.length ++ le 4 e ++ le 4 n = headB e n b.length := by simp [headB]
  rw [ehd] at hs
  obtain ⟨H, hH⟩ : ∃ H, headB e n b.length = H := ⟨_, rfl⟩
  have hHl : H.length = 10 := by rw [← hH]; simp
  rw [hH] at hs
  repeat (first | (refine MC.run1 tab 1000 rfl rfl (by first | exact True.intro | (simp only [Conds, rng, Int.toNat_natCast, List.length_append, bytesV_length] <;> omega) | (simp [Conds, rng] <;> omega) | (simp only [Conds, rng, wrap_u8, wrap_u16, wrap_u32, wrap_u64] <;> omega)) ?_) | (refine MC.la true (la_load1 hs rfl (by rfl)) rfl ?_) | (refine MC.part rfl rfl (fun h => absurd h (by first | decide | omega)) (fun _ => ?_)) | (refine MC.part rfl rfl (fun _ => ?_) (fun h => absurd (by first | decide | omega) h)) | (refine MC.cond rfl (fun h => absurd h (by first | decide | omega)) (fun _ => ?_)) | (refine MC.cond rfl (fun _ => ?_) (fun h => absurd (by first | decide | omega) h)))
  refine MC.does true (does_buildSlice0 hs) rfl ?_
  rintro _ w ⟨b1, rfl, hs⟩
  have hs : Sat (sl (.slice (some ⟨b1, 0, none⟩) 0 0) 5 1 ([] : Bs).length (bytesV []) :: sl v5 5 1 H.length (bytesV H) :: F) w := Sat.sl_mk (xs := []) (spare := []) hs (Nat.le_refl _) rfl rfl
  repeat (first | (refine MC.run1 tab 1000 rfl rfl (by first | exact True.intro | (simp only [Conds, rng, Int.toNat_natCast, List.length_append, bytesV_length] <;> omega) | (simp [Conds, rng] <;> omega) | (simp only [Conds, rng, wrap_u8, wrap_u16, wrap_u32, wrap_u64] <;> omega)) ?_) | (refine MC.la true (la_load1 hs rfl (by rfl)) rfl ?_) | (refine MC.part rfl rfl (fun h => absurd h (by first | decide | omega)) (fun _ => ?_)) | (refine MC.part rfl rfl (fun _ => ?_) (fun h => absurd (by first | decide | omega) h)) | (refine MC.cond rfl (fun h => absurd h (by first | decide | omega)) (fun _ => ?_)) | (refine MC.cond rfl (fun _ => ?_) (fun h => absurd (by first | decide | omega) h)))
  refine MC.does true (does_append hs rfl rfl (RdS.src (RdS.of_sl hs.tail) (bytesV_one _)) (by simp; omega) (by simp; omega)) rfl ?_
  intro v6 w hs
  rw [← bytesV_append, ← List.length_append, List.nil_append] at hs
  repeat (first | (refine MC.run1 tab 1000 rfl rfl (by first | exact True.intro | (simp only [Conds, rng, Int.toNat_natCast, List.length_append, bytesV_length] <;> omega) | (simp [Conds, rng] <;> omega) | (simp only [Conds, rng, wrap_u8, wrap_u16, wrap_u32, wrap_u64] <;> omega)) ?_) | (refine MC.la true (la_load1 hs rfl (by rfl)) rfl ?_) | (refine MC.part rfl rfl (fun h => absurd h (by first | decide | omega)) (fun _ => ?_)) | (refine MC.part rfl rfl (fun _ => ?_) (fun h => absurd (by first | decide | omega) h)) | (refine MC.cond rfl (fun h => absurd h (by first | decide | omega)) (fun _ => ?_)) | (refine MC.cond rfl (fun _ => ?_) (fun h => absurd (by first | decide | omega) h)))
  refine MC.does true (does_append hs rfl rfl (RdS.src hx (bytesV_one _)) (by omega) (by omega)) rfl ?_
  intro v7 w hs
  rw [← bytesV_append, ← List.length_append] at hs
  have hsm := rsum_spec hs (RdS.of_sl hs) (by simp; omega)
  repeat (first | (refine MC.run1 tab 1000 rfl rfl (by first | exact True.intro | (simp only [Conds, rng, Int.toNat_natCast, List.length_append, bytesV_length] <;> omega) | (simp [Conds, rng] <;> omega) | (simp only [Conds, rng, wrap_u8, wrap_u16, wrap_u32, wrap_u64] <;> omega)) ?_) | (refine MC.la true (la_load1 hs rfl (by rfl)) rfl ?_) | (refine MC.part rfl rfl (fun h => absurd h (by first | decide | omega)) (fun _ => ?_)) | (refine MC.part rfl rfl (fun _ => ?_) (fun h => absurd (by first | decide | omega) h)) | (refine MC.cond rfl (fun h => absurd h (by first | decide | omega)) (fun _ => ?_)) | (refine MC.cond rfl (fun _ => ?_) (fun h => absurd (by first | decide | omega) h)))
  refine MC.does true (does_call rfl (hsm)) rfl ?_
  rintro _ w ⟨rfl, rfl⟩
  have hs := hs.tail
  have hsb := sumB_lt (H ++ b)
  obtain ⟨X, hX⟩ : ∃ X, sumB (H ++ b) = X := ⟨_, rfl⟩
  rw [hX] at hsb ⊢
  have h4 := digits_spec (n := X) (k := 4) hs (by decide) (by omega)
  repeat (first | (refine MC.run1 tab 1000 rfl rfl (by first | exact True.intro | (simp only [Conds, rng, Int.toNat_natCast, List.length_append, bytesV_length] <;> omega) | (simp [Conds, rng] <;> omega) | (simp only [Conds, rng, wrap_u8, wrap_u16, wrap_u32, wrap_u64] <;> omega)) ?_) | (refine MC.la true (la_load1 hs rfl (by rfl)) rfl ?_) | (refine MC.part rfl rfl (fun h => absurd h (by first | decide | omega)) (fun _ => ?_)) | (refine MC.part rfl rfl (fun _ => ?_) (fun h => absurd (by first | decide | omega) h)) | (refine MC.cond rfl (fun h => absurd h (by first | decide | omega)) (fun _ => ?_)) | (refine MC.cond rfl (fun _ => ?_) (fun h => absurd (by first | decide | omega) h)))
  refine MC.does false (does_call rfl (h4)) rfl ?_
  intro v8 w hs
  repeat (first | (refine MC.run1 tab 1000 rfl rfl (by first | exact True.intro | (simp only [Conds, rng, Int.toNat_natCast, List.length_append, bytesV_length] <;> omega) | (simp [Conds, rng] <;> omega) | (simp only [Conds, rng, wrap_u8, wrap_u16, wrap_u32, wrap_u64] <;> omega)) ?_) | (refine MC.la true (la_load1 hs rfl (by rfl)) rfl ?_) | (refine MC.part rfl rfl (fun h => absurd h (by first | decide | omega)) (fun _ => ?_)) | (refine MC.part rfl rfl (fun _ => ?_) (fun h => absurd (by first | decide | omega) h)) | (refine MC.cond rfl (fun h => absurd h (by first | decide | omega)) (fun _ => ?_)) | (refine MC.cond rfl (fun _ => ?_) (fun h => absurd (by first | decide | omega) h)))
  refine MC.does true (does_append hs rfl rfl (RdS.src (RdS.of_sl hs) (bytesV_one _)) (by simp; omega) (by simp; omega)) rfl ?_
  intro v9 w hs
  rw [← bytesV_append, ← List.length_append] at hs
  have hs := hs.tail
  have hHX : (H ++ le 4 X).length = 14 := by rw [List.length_append, la]; omega
  repeat (first | (refine MC.run1 tab 1000 rfl rfl (by first | exact True.intro | (simp only [Conds, rng, Int.toNat_natCast, List.length_append, bytesV_length] <;> omega) | (simp [Conds, rng] <;> omega) | (simp only [Conds, rng, wrap_u8, wrap_u16, wrap_u32, wrap_u64] <;> omega)) ?_) | (refine MC.la true (la_load1 hs rfl (by rfl)) rfl ?_) | (refine MC.part rfl rfl (fun h => absurd h (by first | decide | omega)) (fun _ => ?_)) | (refine MC.part rfl rfl (fun _ => ?_) (fun h => absurd (by first | decide | omega) h)) | (refine MC.cond rfl (fun h => absurd h (by first | decide | omega)) (fun _ => ?_)) | (refine MC.cond rfl (fun _ => ?_) (fun h => absurd (by first | decide | omega) h)))
  refine MC.does true (does_append hs rfl rfl (RdS.src hx (bytesV_one _)) (by omega) (by omega)) rfl ?_
  intro v10 w hs
  rw [← bytesV_append, ← List.length_append] at hs
  have hrs := RdS.of_sl hs
  repeat (first | (refine MC.run1 tab 1000 rfl rfl (by first | exact True.intro | (simp only [Conds, rng, Int.toNat_natCast, List.length_append, bytesV_length] <;> omega) | (simp [Conds, rng] <;> omega) | (simp only [Conds, rng, wrap_u8, wrap_u16, wrap_u32, wrap_u64] <;> omega)) ?_) | (refine MC.la true (la_load1 hs rfl (by rfl)) rfl ?_) | (refine MC.part rfl rfl (fun h => absurd h (by first | decide | omega)) (fun _ => ?_)) | (refine MC.part rfl rfl (fun _ => ?_) (fun h => absurd (by first | decide | omega) h)) | (refine MC.cond rfl (fun h => absurd h (by first | decide | omega)) (fun _ => ?_)) | (refine MC.cond rfl (fun _ => ?_) (fun h => absurd (by first | decide | omega) h)))
  refine MC.la true (la_tostr rfl hrs hs) rfl ?_
  have er : H ++ le 4 X ++ b = recB e n b := by simp [recB, hH, hX]
  rw [er]
  repeat (first | (refine MC.run1 tab 1000 rfl rfl (by first | exact True.intro | (simp only [Conds, rng, Int.toNat_natCast, List.length_append, bytesV_length] <;> omega) | (simp [Conds, rng] <;> omega) | (simp only [Conds, rng, wrap_u8, wrap_u16, wrap_u32, wrap_u64] <;> omega)) ?_) | (refine MC.la true (la_load1 hs rfl (by rfl)) rfl ?_) | (refine MC.part rfl rfl (fun h => absurd h (by first | decide | omega)) (fun _ => ?_)) | (refine MC.part rfl rfl (fun _ => ?_) (fun h => absurd (by first | decide | omega) h)) | (refine MC.cond rfl (fun h => absurd h (by first | decide | omega)) (fun _ => ?_)) | (refine MC.cond rfl (fun _ => ?_) (fun h => absurd (by first | decide | omega) h)))
  refine MC.ret rfl ?_
  exact ⟨rfl, hs.tail⟩
end Go.Proofs.YtoigogonccjagaaDoor

namespace Go.Jn
/-- The record that bytes begin with, as the document says it. -/
def standsB (s : Bs) : Nat × Nat × Bs × Bool :=
  if s.length < 14 ∨ s.length < 14 + un (s.take 2) then (0, 0, [], false)
  else (un ((s.drop 2).take 4), un ((s.drop 6).take 4), (s.drop 14).take (un (s.take 2)), decide (recB (un ((s.drop 2).take 4)) (un ((s.drop 6).take 4)) ((s.drop 14).take (un (s.take 2))) = s.take (14 + un (s.take 2))))
end Go.Jn
namespace Go.Proofs.YtoigogonccjagaaDoor
open Go Go.Sl Go.Jn
attribute [local irreducible] LooksAt sumB sumF recB

theorem stands_spec {F : List Assn} {w : World} {s : Bs} (hs : Sat F w) (hl : s.length ≤ 1000000) :
    Ret Tryd.prog 48 [str s] w fun v w' => ∃ vb, v = .tuple #[int (((standsB s).1 : Nat) : Int), int (((standsB s).2.1 : Nat) : Int), vb, bool (standsB s).2.2.2] ∧ Sat F w' := by
  refine Ret.enter [(true, str s)] _ Tryd.func48 rfl Tryd.ntmps48 rfl ?_
  rcases Nat.lt_or_ge s.length 14 with h14 | h14
  · have e : standsB s = (0, 0, [], false) := by unfold standsB; rw [if_pos (.inl h14)]
    rw [e]
    repeat (first | (refine MC.run1 tab 1000 rfl rfl (by first | exact True.intro | (simp only [Conds, rng, Int.toNat_natCast, List.length_append, bytesV_length] <;> omega) | (simp [Conds, rng] <;> omega) | (simp only [Conds, rng, wrap_u8, wrap_u16, wrap_u32, wrap_u64] <;> omega)) ?_) | (refine MC.la true (la_load1 hs rfl (by rfl)) rfl ?_) | (refine MC.part rfl rfl (fun h => absurd h (by first | decide | omega)) (fun _ => ?_)) | (refine MC.part rfl rfl (fun _ => ?_) (fun h => absurd (by first | decide | omega) h)) | (refine MC.cond rfl (fun h => absurd h (by first | decide | omega)) (fun _ => ?_)) | (refine MC.cond rfl (fun _ => ?_) (fun h => absurd (by first | decide | omega) h)))
    refine MC.ret rfl ?_
    exact ⟨_, rfl, hs⟩
  have hn1 := number_spec (l := s.take 2) hs (by rw [List.length_take]; omega)
  have hu := un_lt (s.take 2)
  rw [List.length_take, Nat.min_eq_left (by omega)] at hu
  obtain ⟨L, hL⟩ : ∃ L, un (s.take 2) = L := ⟨_, rfl⟩
  rw [hL] at hu hn1
  have hu : L < 65536 := hu
  repeat (first | (refine MC.run1 tab 1000 rfl rfl (by first | exact True.intro | (simp only [Conds, rng, Int.toNat_natCast, List.length_append, bytesV_length] <;> omega) | (simp [Conds, rng] <;> omega) | (simp only [Conds, rng, wrap_u8, wrap_u16, wrap_u32, wrap_u64] <;> omega)) ?_) | (refine MC.la true (la_load1 hs rfl (by rfl)) rfl ?_) | (refine MC.part rfl rfl (fun h => absurd h (by first | decide | omega)) (fun _ => ?_)) | (refine MC.part rfl rfl (fun _ => ?_) (fun h => absurd (by first | decide | omega) h)) | (refine MC.cond rfl (fun h => absurd h (by first | decide | omega)) (fun _ => ?_)) | (refine MC.cond rfl (fun _ => ?_) (fun h => absurd (by first | decide | omega) h)))
  refine MC.does true (does_call rfl (hn1)) rfl ?_
  rintro _ w ⟨rfl, rfl⟩
  rcases Nat.lt_or_ge s.length (14 + L) with hL2 | hL2
  · have e : standsB s = (0, 0, [], false) := by unfold standsB; rw [if_pos (.inr (by rw [hL]; exact hL2))]
    rw [e]
    repeat (first | (refine MC.run1 tab 1000 rfl rfl (by first | exact True.intro | (simp only [Conds, rng, Int.toNat_natCast, List.length_append, bytesV_length] <;> omega) | (simp [Conds, rng] <;> omega) | (simp only [Conds, rng, wrap_u8, wrap_u16, wrap_u32, wrap_u64] <;> omega)) ?_) | (refine MC.la true (la_load1 hs rfl (by rfl)) rfl ?_) | (refine MC.part rfl rfl (fun h => absurd h (by first | decide | omega)) (fun _ => ?_)) | (refine MC.part rfl rfl (fun _ => ?_) (fun h => absurd (by first | decide | omega) h)) | (refine MC.cond rfl (fun h => absurd h (by first | decide | omega)) (fun _ => ?_)) | (refine MC.cond rfl (fun _ => ?_) (fun h => absurd (by first | decide | omega) h)))
    refine MC.ret rfl ?_
    exact ⟨_, rfl, hs⟩
  obtain ⟨b, hb⟩ : ∃ b, (s.drop 14).take L = b := ⟨_, rfl⟩
  have hbl : b.length = L := by rw [← hb, List.length_take, List.length_drop]; omega
  have eb : List.drop (Int.toNat 14) (List.take (Int.toNat (14 + ((L : Nat) : Int))) s) = b := by
    rw [show Int.toNat (14 + ((L : Nat) : Int)) = 14 + L by omega, show Int.toNat 14 = 14 from rfl, List.drop_take, ← hb]; congr 1; omega
  repeat (first | (refine MC.run1 tab 1000 rfl rfl (by first | exact True.intro | (simp only [Conds, rng, Int.toNat_natCast, List.length_append, bytesV_length] <;> omega) | (simp [Conds, rng] <;> omega) | (simp only [Conds, rng, wrap_u8, wrap_u16, wrap_u32, wrap_u64] <;> omega)) ?_) | (refine MC.la true (la_load1 hs rfl (by rfl)) rfl ?_) | (refine MC.part rfl rfl (fun h => absurd h (by first | decide | omega)) (fun _ => ?_)) | (refine MC.part rfl rfl (fun _ => ?_) (fun h => absurd (by first | decide | omega) h)) | (refine MC.cond rfl (fun h => absurd h (by first | decide | omega)) (fun _ => ?_)) | (refine MC.cond rfl (fun _ => ?_) (fun h => absurd (by first | decide | omega) h)))
  refine MC.does true (does_call rfl (hn1)) rfl ?_
  rintro _ w ⟨rfl, rfl⟩
  repeat (first | (refine MC.run1 tab 1000 rfl rfl (by first | exact True.intro | (simp only [Conds, rng, Int.toNat_natCast, List.length_append, bytesV_length] <;> omega) | (simp [Conds, rng] <;> omega) | (simp only [Conds, rng, wrap_u8, wrap_u16, wrap_u32, wrap_u64] <;> omega)) ?_) | (refine MC.la true (la_load1 hs rfl (by rfl)) rfl ?_) | (refine MC.part rfl rfl (fun h => absurd h (by first | decide | omega)) (fun _ => ?_)) | (refine MC.part rfl rfl (fun _ => ?_) (fun h => absurd (by first | decide | omega) h)) | (refine MC.cond rfl (fun h => absurd h (by first | decide | omega)) (fun _ => ?_)) | (refine MC.cond rfl (fun _ => ?_) (fun h => absurd (by first | decide | omega) h)))
  rw [eb]
  subst hbl
  refine MC.does true (does_ofStr hs rfl) rfl ?_
  intro vb w hs
  obtain ⟨-, qb, cb, rfl, -⟩ := hs.sl_len
  have l2 : ((s.drop 2).take 4).length = 4 := by rw [List.length_take, List.length_drop]; omega
  have l6 : ((s.drop 6).take 4).length = 4 := by rw [List.length_take, List.length_drop]; omega
  have e2 : List.drop (Int.toNat 2) (List.take (Int.toNat 6) s) = (s.drop 2).take 4 := by
    show (s.take 6).drop 2 = _
    rw [List.drop_take]
  have e6 : List.drop (Int.toNat 6) (List.take (Int.toNat 10) s) = (s.drop 6).take 4 := by
    show (s.take 10).drop 6 = _
    rw [List.drop_take]
  have hn2 := number_spec (l := (s.drop 2).take 4) hs (by omega)
  have hn6 := number_spec (l := (s.drop 6).take 4) hs (by omega)
  have hu2 := un_lt ((s.drop 2).take 4)
  have hu6 := un_lt ((s.drop 6).take 4)
  rw [l2] at hu2
  rw [l6] at hu6
  have est : standsB s = (un ((s.drop 2).take 4), un ((s.drop 6).take 4), b, decide (recB (un ((s.drop 2).take 4)) (un ((s.drop 6).take 4)) b = s.take (14 + b.length))) := by
    unfold standsB
    rw [hL, if_neg (by omega), hb]
  obtain ⟨X, hX⟩ : ∃ X, un ((s.drop 2).take 4) = X := ⟨_, rfl⟩
  obtain ⟨Y, hY⟩ : ∃ Y, un ((s.drop 6).take 4) = Y := ⟨_, rfl⟩
  rw [hX] at hn2 hu2 est
  rw [hY] at hn6 hu6 est
  rw [est]
  have hu2 : X < 4294967296 := hu2
  have hu6 : Y < 4294967296 := hu6
  repeat (first | (refine MC.run1 tab 1000 rfl rfl (by first | exact True.intro | (simp only [Conds, rng, Int.toNat_natCast, List.length_append, bytesV_length] <;> omega) | (simp [Conds, rng] <;> omega) | (simp only [Conds, rng, wrap_u8, wrap_u16, wrap_u32, wrap_u64] <;> omega)) ?_) | (refine MC.la true (la_load1 hs rfl (by rfl)) rfl ?_) | (refine MC.part rfl rfl (fun h => absurd h (by first | decide | omega)) (fun _ => ?_)) | (refine MC.part rfl rfl (fun _ => ?_) (fun h => absurd (by first | decide | omega) h)) | (refine MC.cond rfl (fun h => absurd h (by first | decide | omega)) (fun _ => ?_)) | (refine MC.cond rfl (fun _ => ?_) (fun h => absurd (by first | decide | omega) h)))
  rw [e2]
  repeat (first | (refine MC.run1 tab 1000 rfl rfl (by first | exact True.intro | (simp only [Conds, rng, Int.toNat_natCast, List.length_append, bytesV_length] <;> omega) | (simp [Conds, rng] <;> omega) | (simp only [Conds, rng, wrap_u8, wrap_u16, wrap_u32, wrap_u64] <;> omega)) ?_) | (refine MC.la true (la_load1 hs rfl (by rfl)) rfl ?_) | (refine MC.part rfl rfl (fun h => absurd h (by first | decide | omega)) (fun _ => ?_)) | (refine MC.part rfl rfl (fun _ => ?_) (fun h => absurd (by first | decide | omega) h)) | (refine MC.cond rfl (fun h => absurd h (by first | decide | omega)) (fun _ => ?_)) | (refine MC.cond rfl (fun _ => ?_) (fun h => absurd (by first | decide | omega) h)))
  refine MC.does true (does_call rfl (hn2)) rfl ?_
  rintro _ w ⟨rfl, rfl⟩
  repeat (first | (refine MC.run1 tab 1000 rfl rfl (by first | exact True.intro | (simp only [Conds, rng, Int.toNat_natCast, List.length_append, bytesV_length] <;> omega) | (simp [Conds, rng] <;> omega) | (simp only [Conds, rng, wrap_u8, wrap_u16, wrap_u32, wrap_u64] <;> omega)) ?_) | (refine MC.la true (la_load1 hs rfl (by rfl)) rfl ?_) | (refine MC.part rfl rfl (fun h => absurd h (by first | decide | omega)) (fun _ => ?_)) | (refine MC.part rfl rfl (fun _ => ?_) (fun h => absurd (by first | decide | omega) h)) | (refine MC.cond rfl (fun h => absurd h (by first | decide | omega)) (fun _ => ?_)) | (refine MC.cond rfl (fun _ => ?_) (fun h => absurd (by first | decide | omega) h)))
  rw [e6]
  repeat (first | (refine MC.run1 tab 1000 rfl rfl (by first | exact True.intro | (simp only [Conds, rng, Int.toNat_natCast, List.length_append, bytesV_length] <;> omega) | (simp [Conds, rng] <;> omega) | (simp only [Conds, rng, wrap_u8, wrap_u16, wrap_u32, wrap_u64] <;> omega)) ?_) | (refine MC.la true (la_load1 hs rfl (by rfl)) rfl ?_) | (refine MC.part rfl rfl (fun h => absurd h (by first | decide | omega)) (fun _ => ?_)) | (refine MC.part rfl rfl (fun _ => ?_) (fun h => absurd (by first | decide | omega) h)) | (refine MC.cond rfl (fun h => absurd h (by first | decide | omega)) (fun _ => ?_)) | (refine MC.cond rfl (fun _ => ?_) (fun h => absurd (by first | decide | omega) h)))
  refine MC.does true (does_call rfl (hn6)) rfl ?_
  rintro _ w ⟨rfl, rfl⟩
  repeat (first | (refine MC.run1 tab 1000 rfl rfl (by first | exact True.intro | (simp only [Conds, rng, Int.toNat_natCast, List.length_append, bytesV_length] <;> omega) | (simp [Conds, rng] <;> omega) | (simp only [Conds, rng, wrap_u8, wrap_u16, wrap_u32, wrap_u64] <;> omega)) ?_) | (refine MC.la true (la_load1 hs rfl (by rfl)) rfl ?_) | (refine MC.part rfl rfl (fun h => absurd h (by first | decide | omega)) (fun _ => ?_)) | (refine MC.part rfl rfl (fun _ => ?_) (fun h => absurd (by first | decide | omega) h)) | (refine MC.cond rfl (fun h => absurd h (by first | decide | omega)) (fun _ => ?_)) | (refine MC.cond rfl (fun _ => ?_) (fun h => absurd (by first | decide | omega) h)))
  refine MC.draw hs [0,1,2,3,4,5,7,8,9,10,11,6,12,13,14,15,16] (by rfl) ?_; intro w hs
  have hrr := rrecord_spec (e := X) (n := Y) hs (RdS.of_sl hs) (by omega) (by omega) (by omega)
  repeat (first | (refine MC.run1 tab 1000 rfl rfl (by first | exact True.intro | (simp only [Conds, rng, Int.toNat_natCast, List.length_append, bytesV_length] <;> omega) | (simp [Conds, rng] <;> omega) | (simp only [Conds, rng, wrap_u8, wrap_u16, wrap_u32, wrap_u64] <;> omega)) ?_) | (refine MC.laD true (la_load1 hs rfl (by rfl)) rfl ?_) | (refine MC.part rfl rfl (fun h => absurd h (by first | decide | omega)) (fun _ => ?_)) | (refine MC.part rfl rfl (fun _ => ?_) (fun h => absurd (by first | decide | omega) h)) | (refine MC.cond rfl (fun h => absurd h (by first | decide | omega)) (fun _ => ?_)) | (refine MC.cond rfl (fun _ => ?_) (fun h => absurd (by first | decide | omega) h)))
  refine MC.doesK true (does_call rfl hrr) rfl rfl rfl ?_
  rintro _ w ⟨rfl, hs⟩
  refine ⟨(by repeat (first | exact True.intro | refine ⟨At.sat hs, ?_⟩ | refine ⟨Suf.sat hs, ?_⟩)), ?_⟩
  repeat (first | (refine MC.run1 tab 1000 rfl rfl (by first | exact True.intro | (simp only [Conds, rng, Int.toNat_natCast, List.length_append, bytesV_length] <;> omega) | (simp [Conds, rng] <;> omega) | (simp only [Conds, rng, wrap_u8, wrap_u16, wrap_u32, wrap_u64] <;> omega)) ?_) | (refine MC.laD true (la_load1 hs rfl (by rfl)) rfl ?_) | (refine MC.part rfl rfl (fun h => absurd h (by first | decide | omega)) (fun _ => ?_)) | (refine MC.part rfl rfl (fun _ => ?_) (fun h => absurd (by first | decide | omega) h)) | (refine MC.cond rfl (fun h => absurd h (by first | decide | omega)) (fun _ => ?_)) | (refine MC.cond rfl (fun _ => ?_) (fun h => absurd (by first | decide | omega) h)))
  repeat (first | (refine MC.run1 tab 1000 rfl rfl (by first | exact True.intro | (simp only [Conds, rng, Int.toNat_natCast, List.length_append, bytesV_length] <;> omega) | (simp [Conds, rng] <;> omega) | (simp only [Conds, rng, wrap_u8, wrap_u16, wrap_u32, wrap_u64] <;> omega)) ?_) | (refine MC.la true (la_load1 hs rfl (by rfl)) rfl ?_) | (refine MC.part rfl rfl (fun h => absurd h (by first | decide | omega)) (fun _ => ?_)) | (refine MC.part rfl rfl (fun _ => ?_) (fun h => absurd (by first | decide | omega) h)) | (refine MC.cond rfl (fun h => absurd h (by first | decide | omega)) (fun _ => ?_)) | (refine MC.cond rfl (fun _ => ?_) (fun h => absurd (by first | decide | omega) h)))
  refine MC.ret rfl ?_
  refine ⟨.slice qb b.length cb, ?_, hs.tail⟩
  rw [show (14 + ((b.length : Nat) : Int)).toNat = 14 + b.length by omega]
  rfl
end Go.Proofs.YtoigogonccjagaaDoor

namespace Go.Proofs.YtoigogonccjagaaDoor
open Go Go.Sl Go.Jn
attribute [local irreducible] LooksAt sumB sumF recB

def strV (S : List Bs) : List Value := S.map fun s => str s
def wrV (O : List (Nat × Bs)) : List Value := O.flatMap fun x => [int ((x.1 : Nat) : Int), str x.2]
@[simp] theorem strV_length (S : List Bs) : (strV S).length = S.length := by simp [strV]
theorem strV_one (S : List Bs) : ∀ u ∈ strV S, u.oneCell' = true := by
  intro u hu
  obtain ⟨s, _, rfl⟩ := List.mem_map.1 hu
  rfl
theorem wrV_append (a b : List (Nat × Bs)) : wrV (a ++ b) = wrV a ++ wrV b := by simp [wrV]
/-- The document's device at block p; what it read is no matter. -/
def rdev (p : Nat) (D : Dev) : Assn := Sl.ex fun vs : Value => Sl.ex fun vo : Value => Sl.ex fun rd : Int => star [blk p [vs, vo, int rd, int (D.fuse - 1)] 91, sl vs 9 1 D.S.length (strV D.S), sl vo 113 2 D.O.length (wrV D.O)]
section
variable {F : List Assn} {p : Nat} {D : Dev} {w : World}
theorem rdev_open (hs : Sat (rdev p D :: F) w) : ∃ vs vo rd, Sat (blk p [vs, vo, int rd, int (D.fuse - 1)] 91 :: sl vs 9 1 D.S.length (strV D.S) :: sl vo 113 2 D.O.length (wrV D.O) :: F) w := by
  obtain ⟨vs, hs⟩ := Sat.ex_iff.1 hs
  obtain ⟨vo, hs⟩ := Sat.ex_iff.1 hs
  obtain ⟨rd, hs⟩ := Sat.ex_iff.1 hs
  exact ⟨vs, vo, rd, hs.unstar⟩
theorem rdev_shut {vs vo : Value} {rd : Int} (hs : Sat (blk p [vs, vo, int rd, int (D.fuse - 1)] 91 :: sl vs 9 1 D.S.length (strV D.S) :: sl vo 113 2 D.O.length (wrV D.O) :: F) w) : Sat (rdev p D :: F) w :=
  Sat.ex_iff.2 ⟨vs, Sat.ex_iff.2 ⟨vo, Sat.ex_iff.2 ⟨rd, Sat.restar (l := [_, _, _]) hs⟩⟩⟩
end
theorem rcut_spec {F : List Assn} {p n : Nat} {D : Dev} {w : World} (hs : Sat (rdev p D :: F) w) (hn : n ≤ 1000000) :
    Ret Tryd.prog 25 [ptr p, int ((n : Nat) : Int)] w fun v w' => v = int 0 ∧ Sat (rdev p (D.cut ((n : Nat) : Int)) :: F) w' := by
  obtain ⟨vs, vo, rd, hs⟩ := rdev_open hs
  refine Ret.enter [(true, ptr p), (true, int ((n : Nat) : Int))] _ Tryd.func25 rfl Tryd.ntmps25 rfl ?_
  repeat (first | (refine MC.run1 tab 1000 rfl rfl (by first | exact True.intro | (simp only [Conds, rng, Int.toNat_natCast, List.length_append, bytesV_length] <;> omega) | (simp [Conds, rng] <;> omega) | (simp only [Conds, rng, wrap_u8, wrap_u16, wrap_u32, wrap_u64] <;> omega)) ?_) | (refine MC.la true (la_load1 hs rfl (by rfl)) rfl ?_) | (refine MC.part rfl rfl (fun h => absurd h (by first | decide | omega)) (fun _ => ?_)) | (refine MC.part rfl rfl (fun _ => ?_) (fun h => absurd (by first | decide | omega) h)) | (refine MC.cond rfl (fun h => absurd h (by first | decide | omega)) (fun _ => ?_)) | (refine MC.cond rfl (fun _ => ?_) (fun h => absurd (by first | decide | omega) h)))
  refine MC.does true (does_store1 hs rfl rfl rfl (by first | decide | (simp; done) | (simp; omega))) rfl ?_; intro _ w hs
  repeat (first | (refine MC.run1 tab 1000 rfl rfl (by first | exact True.intro | (simp only [Conds, rng, Int.toNat_natCast, List.length_append, bytesV_length] <;> omega) | (simp [Conds, rng] <;> omega) | (simp only [Conds, rng, wrap_u8, wrap_u16, wrap_u32, wrap_u64] <;> omega)) ?_) | (refine MC.la true (la_load1 hs rfl (by rfl)) rfl ?_) | (refine MC.part rfl rfl (fun h => absurd h (by first | decide | omega)) (fun _ => ?_)) | (refine MC.part rfl rfl (fun _ => ?_) (fun h => absurd (by first | decide | omega) h)) | (refine MC.cond rfl (fun h => absurd h (by first | decide | omega)) (fun _ => ?_)) | (refine MC.cond rfl (fun _ => ?_) (fun h => absurd (by first | decide | omega) h)))
  refine MC.ret rfl ?_
  have e : D.cut ((n : Nat) : Int) = { D with fuse := ((n : Nat) : Int) + 1 } := by
    unfold Dev.cut
    rw [if_neg (by omega)]
    congr 1; omega
  rw [e]
  refine ⟨rfl, rdev_shut (D := { D with fuse := ((n : Nat) : Int) + 1 }) (vs := vs) (vo := vo) (rd := rd) ?_⟩
  have e2 : (((n : Nat) : Int) + 1) - 1 = ((n : Nat) : Int) := by omega
  show Sat (blk p [vs, vo, int rd, int ((((n : Nat) : Int) + 1) - 1)] _ :: _) w
  rw [e2]
  exact hs
set_option maxHeartbeats 2000000 in
theorem rput_spec {F : List Assn} {p k : Nat} {D : Dev} {b : Bs} {w : World} (hs : Sat (rdev p D :: F) w) (hD : D.ok) (hk : k < D.S.length) (hb : b.length = 256) (hO : D.O.length ≤ 100000) :
    Ret Tryd.prog 45 [ptr p, int ((k : Nat) : Int), str b] w fun v w' => v = int (if D.fuse = 1 then 150 else 0) ∧ Sat (rdev p (if D.fuse = 1 then D else D.write k b) :: F) w' := by
  have hs0 := hs
  have hf0 := hD.fuse0
  have hf1 := hD.fuse1
  have hfew := hD.few
  obtain ⟨vs, vo, rd, hs⟩ := rdev_open hs
  obtain ⟨-, qs, cs, rfl, -⟩ := (hs.pull 1 rfl).sl_len
  obtain ⟨-, qo, co, rfl, -⟩ := (hs.pull 2 rfl).sl_len
  refine Ret.enter [(true, ptr p), (true, int ((k : Nat) : Int)), (true, str b)] _ Tryd.func45 rfl Tryd.ntmps45 rfl ?_
  by_cases hf : D.fuse = 1
  · rw [if_pos hf, if_pos hf]
    have hz : D.fuse - 1 = 0 := by omega
    repeat (first | (refine MC.run1 tab 1000 rfl rfl (by first | exact True.intro | (simp only [Conds, rng, Int.toNat_natCast, List.length_append, bytesV_length] <;> omega) | (simp [Conds, rng] <;> omega) | (simp only [Conds, rng, wrap_u8, wrap_u16, wrap_u32, wrap_u64] <;> omega)) ?_) | (refine MC.la true (la_load1 hs rfl (by rfl)) rfl ?_) | (refine MC.part rfl rfl (fun h => absurd h (by first | decide | omega)) (fun _ => ?_)) | (refine MC.part rfl rfl (fun _ => ?_) (fun h => absurd (by first | decide | omega) h)) | (refine MC.cond rfl (fun h => absurd h (by first | decide | omega)) (fun _ => ?_)) | (refine MC.cond rfl (fun _ => ?_) (fun h => absurd (by first | decide | omega) h)))
    refine MC.ret rfl ?_
    exact ⟨rfl, hs0⟩
  rw [if_neg hf, if_neg hf]
  have hz : ¬ D.fuse - 1 = 0 := by omega
  repeat (first | (refine MC.run1 tab 1000 rfl rfl (by first | exact True.intro | (simp only [Conds, rng, Int.toNat_natCast, List.length_append, bytesV_length] <;> omega) | (simp [Conds, rng] <;> omega) | (simp only [Conds, rng, wrap_u8, wrap_u16, wrap_u32, wrap_u64] <;> omega)) ?_) | (refine MC.la true (la_load1 hs rfl (by rfl)) rfl ?_) | (refine MC.part rfl rfl (fun h => absurd h (by first | decide | omega)) (fun _ => ?_)) | (refine MC.part rfl rfl (fun _ => ?_) (fun h => absurd (by first | decide | omega) h)) | (refine MC.cond rfl (fun h => absurd h (by first | decide | omega)) (fun _ => ?_)) | (refine MC.cond rfl (fun _ => ?_) (fun h => absurd (by first | decide | omega) h)))
  refine MC.pure (f := true) (po_build (ls := [(0, [int ((k : Nat) : Int)]), (1, [str b])]) (out := [int ((k : Nat) : Int), str b]) rfl rfl ⟨⟨_, rfl, by simp⟩, ⟨_, rfl, by simp⟩, trivial⟩ rfl) rfl ?_
  refine MC.does true (does_buildSlice (vs := [(0, .agg #[int ((k : Nat) : Int), str b])]) (ls := [(0, [int ((k : Nat) : Int), str b])]) (out := [int ((k : Nat) : Int), str b]) hs rfl rfl ⟨⟨_, rfl, by simp [rep]⟩, trivial⟩ rfl rfl) rfl ?_
  rintro _ w ⟨b1, rfl, hs⟩
  refine MC.does true (does_append hs rfl rfl (src_at (by rfl) (by intro u hu; simp at hu; rcases hu with rfl | rfl <;> rfl)) (by omega) (by omega)) rfl ?_
  intro vo2 w hs
  have hs := hs.tail
  obtain ⟨-, qo2, co2, rfl, -⟩ := (hs.pull 2 rfl).sl_len
  repeat (first | (refine MC.run1 tab 1000 rfl rfl (by first | exact True.intro | (simp only [Conds, rng, Int.toNat_natCast, List.length_append, bytesV_length] <;> omega) | (simp [Conds, rng] <;> omega) | (simp only [Conds, rng, wrap_u8, wrap_u16, wrap_u32, wrap_u64] <;> omega)) ?_) | (refine MC.la true (la_load1 hs rfl (by rfl)) rfl ?_) | (refine MC.part rfl rfl (fun h => absurd h (by first | decide | omega)) (fun _ => ?_)) | (refine MC.part rfl rfl (fun _ => ?_) (fun h => absurd (by first | decide | omega) h)) | (refine MC.cond rfl (fun h => absurd h (by first | decide | omega)) (fun _ => ?_)) | (refine MC.cond rfl (fun _ => ?_) (fun h => absurd (by first | decide | omega) h)))
  refine MC.does true (does_store1 hs rfl rfl rfl (by first | decide | (simp; done) | (simp; omega))) rfl ?_; intro _ w hs
  have e1 : D.O.length + 1 = (D.O ++ [(k, b)]).length := by simp
  have e2 : wrV D.O ++ [int ((k : Nat) : Int), str b] = wrV (D.O ++ [(k, b)]) := by rw [wrV_append]; rfl
  rw [e2] at hs
  have hs : Sat (blk p [.slice qs D.S.length cs, .slice qo2 (D.O.length + 1) co2, int rd, int (D.fuse - 1)] 91 :: sl (.slice qs D.S.length cs) 9 1 D.S.length (strV D.S) :: sl (.slice qo2 (D.O.length + 1) co2) 113 2 (D.O.length + 1) (wrV (D.O ++ [(k, b)])) :: F) w := hs
  by_cases h1 : 1 < D.fuse
  · repeat (first | (refine MC.run1 tab 1000 rfl rfl (by first | exact True.intro | (simp only [Conds, rng, Int.toNat_natCast, List.length_append, bytesV_length] <;> omega) | (simp [Conds, rng] <;> omega) | (simp only [Conds, rng, wrap_u8, wrap_u16, wrap_u32, wrap_u64] <;> omega)) ?_) | (refine MC.la true (la_load1 hs rfl (by rfl)) rfl ?_) | (refine MC.part rfl rfl (fun h => absurd h (by first | decide | omega)) (fun _ => ?_)) | (refine MC.part rfl rfl (fun _ => ?_) (fun h => absurd (by first | decide | omega) h)) | (refine MC.cond rfl (fun h => absurd h (by first | decide | omega)) (fun _ => ?_)) | (refine MC.cond rfl (fun _ => ?_) (fun h => absurd (by first | decide | omega) h)))
    refine MC.does true (does_store1 hs rfl rfl rfl (by first | decide | (simp; done) | (simp; omega))) rfl ?_; intro _ w hs
    repeat (first | (refine MC.run1 tab 1000 rfl rfl (by first | exact True.intro | (simp only [Conds, rng, Int.toNat_natCast, List.length_append, bytesV_length] <;> omega) | (simp [Conds, rng] <;> omega) | (simp only [Conds, rng, wrap_u8, wrap_u16, wrap_u32, wrap_u64] <;> omega)) ?_) | (refine MC.la true (la_load1 hs rfl (by rfl)) rfl ?_) | (refine MC.part rfl rfl (fun h => absurd h (by first | decide | omega)) (fun _ => ?_)) | (refine MC.part rfl rfl (fun _ => ?_) (fun h => absurd (by first | decide | omega) h)) | (refine MC.cond rfl (fun h => absurd h (by first | decide | omega)) (fun _ => ?_)) | (refine MC.cond rfl (fun _ => ?_) (fun h => absurd (by first | decide | omega) h)))
    refine MC.ret rfl ?_
    refine ⟨rfl, rdev_shut (D := D.write k b) (vs := .slice qs D.S.length cs) (vo := .slice qo2 (D.O.length + 1) co2) (rd := rd) ?_⟩
    have e4 : (D.write k b).O.length = D.O.length + 1 := by show (D.O ++ [(k, b)]).length = _; simp
    have e3 : (D.write k b).fuse - 1 = D.fuse - 1 - 1 := by show burnt D.fuse - 1 = _; unfold burnt; rw [if_pos h1]
    rw [e3, e4]
    exact hs
  · repeat (first | (refine MC.run1 tab 1000 rfl rfl (by first | exact True.intro | (simp only [Conds, rng, Int.toNat_natCast, List.length_append, bytesV_length] <;> omega) | (simp [Conds, rng] <;> omega) | (simp only [Conds, rng, wrap_u8, wrap_u16, wrap_u32, wrap_u64] <;> omega)) ?_) | (refine MC.la true (la_load1 hs rfl (by rfl)) rfl ?_) | (refine MC.part rfl rfl (fun h => absurd h (by first | decide | omega)) (fun _ => ?_)) | (refine MC.part rfl rfl (fun _ => ?_) (fun h => absurd (by first | decide | omega) h)) | (refine MC.cond rfl (fun h => absurd h (by first | decide | omega)) (fun _ => ?_)) | (refine MC.cond rfl (fun _ => ?_) (fun h => absurd (by first | decide | omega) h)))
    refine MC.ret rfl ?_
    refine ⟨rfl, rdev_shut (D := D.write k b) (vs := .slice qs D.S.length cs) (vo := .slice qo2 (D.O.length + 1) co2) (rd := rd) ?_⟩
    have e4 : (D.write k b).O.length = D.O.length + 1 := by show (D.O ++ [(k, b)]).length = _; simp
    have e3 : (D.write k b).fuse - 1 = D.fuse - 1 := by show burnt D.fuse - 1 = _; unfold burnt; rw [if_neg h1]
    rw [e3, e4]
    exact hs
theorem wrV_at (O : List (Nat × Bs)) (i : Nat) (h : i < O.length) : (wrV O)[i * 2]? = some (int ((O[i].1 : Nat) : Int)) ∧ (wrV O)[i * 2 + 1]? = some (str O[i].2) := by
  induction O generalizing i with
  | nil => simp at h
  | cons x O ih =>
    have e : wrV (x :: O) = int ((x.1 : Nat) : Int) :: str x.2 :: wrV O := rfl
    cases i with
    | zero => rw [e]; exact ⟨rfl, rfl⟩
    | succ i =>
      have h' : i < O.length := by simpa using h
      have := ih i h'
      rw [e, show (i + 1) * 2 = i * 2 + 1 + 1 by omega]
      simpa using this
theorem strV_set (S : List Bs) (k : Nat) (b : Bs) (sp : List Value) (h : k < S.length) : (strV S ++ sp).set k (str b) = strV (S.set k b) ++ sp := by
  rw [List.set_append_left _ _ (by simpa using h)]
  congr 1
  simp [strV, List.map_set]
set_option maxHeartbeats 2000000 in
theorem rsync_spec {F : List Assn} {p : Nat} {D : Dev} {w : World} (hs : Sat (rdev p D :: F) w) (hD : D.ok) (hO : D.O.length ≤ 100000) :
    Ret Tryd.prog 46 [ptr p] w fun v w' => v = int (if D.fuse = 1 then 150 else 0) ∧ Sat (rdev p (if D.fuse = 1 then D else D.sync) :: F) w' := by
  have hs0 := hs
  have hf0 := hD.fuse0
  have hf1 := hD.fuse1
  have hpos := hD.pos
  have hfew := hD.few
  obtain ⟨vs, vo, rd, hs⟩ := rdev_open hs
  obtain ⟨-, qs, cs, rfl, -⟩ := (hs.pull 1 rfl).sl_len
  obtain ⟨-, qo, co, rfl, -⟩ := (hs.pull 2 rfl).sl_len
  refine Ret.enter [(true, ptr p)] _ Tryd.func46 rfl Tryd.ntmps46 rfl ?_
  by_cases hf : D.fuse = 1
  · rw [if_pos hf, if_pos hf]
    have hz : D.fuse - 1 = 0 := by omega
    repeat (first | (refine MC.run1 tab 1000 rfl rfl (by first | exact True.intro | (simp only [Conds, rng, Int.toNat_natCast, List.length_append, bytesV_length] <;> omega) | (simp [Conds, rng] <;> omega) | (simp only [Conds, rng, wrap_u8, wrap_u16, wrap_u32, wrap_u64] <;> omega)) ?_) | (refine MC.la true (la_load1 hs rfl (by rfl)) rfl ?_) | (refine MC.part rfl rfl (fun h => absurd h (by first | decide | omega)) (fun _ => ?_)) | (refine MC.part rfl rfl (fun _ => ?_) (fun h => absurd (by first | decide | omega) h)) | (refine MC.cond rfl (fun h => absurd h (by first | decide | omega)) (fun _ => ?_)) | (refine MC.cond rfl (fun _ => ?_) (fun h => absurd (by first | decide | omega) h)))
    refine MC.ret rfl ?_
    exact ⟨rfl, hs0⟩
  rw [if_neg hf, if_neg hf]
  have hz : ¬ D.fuse - 1 = 0 := by omega
  rcases (hs.pull 1 rfl).sl_cases with ⟨_, h0, _⟩ | ⟨bs, c, spare, e1, hcs, _, hsp, hs⟩
  · omega
  injection e1 with e1 _ e2
  subst e1; subst e2
  dsimp only [List.eraseIdx] at hs
  have hr0 : RdS (sl (.slice qo D.O.length co) 113 2 D.O.length (wrV D.O) :: F) 2 (.slice qo D.O.length co) D.O.length (wrV D.O) := RdS.of_sl (hs.tail.tail)
  repeat (first | (refine MC.run1 tab 1000 rfl rfl (by first | exact True.intro | (simp only [Conds, rng, Int.toNat_natCast, List.length_append, bytesV_length] <;> omega) | (simp [Conds, rng] <;> omega) | (simp only [Conds, rng, wrap_u8, wrap_u16, wrap_u32, wrap_u64] <;> omega)) ?_) | (refine MC.la true (la_load1 hs rfl (by rfl)) rfl ?_) | (refine MC.part rfl rfl (fun h => absurd h (by first | decide | omega)) (fun _ => ?_)) | (refine MC.part rfl rfl (fun _ => ?_) (fun h => absurd (by first | decide | omega) h)) | (refine MC.cond rfl (fun h => absurd h (by first | decide | omega)) (fun _ => ?_)) | (refine MC.cond rfl (fun _ => ?_) (fun h => absurd (by first | decide | omega) h)))
  refine MC.loop (σ := Nat) (fun i => [(0, true, ptr p), (3, true, int ((i : Nat) : Int))])
    (fun i w => i ≤ D.O.length ∧ Sat (blk bs (strV (laid D.S (D.O.take i)) ++ spare) 9 :: blk p [.slice (some ⟨bs, 0, none⟩) D.S.length cs, .slice qo D.O.length co, int rd, int (D.fuse - 1)] 91 :: sl (.slice qo D.O.length co) 113 2 D.O.length (wrV D.O) :: F) w) (fun i => D.O.length - i) 0 (by repeat (first | exact trivial | refine ⟨rfl, ?_⟩)) ⟨Nat.zero_le _, hs⟩ ?_
  rintro i w ⟨hi, hs⟩
  rcases Nat.lt_or_ge i D.O.length with hlt | hge
  · obtain ⟨hx1, hx2⟩ := hD.op _ (List.getElem_mem hlt)
    obtain ⟨bo, oo, rfl, hr⟩ := hr0.at_ (by omega)
    obtain ⟨ha, hb⟩ := wrV_at D.O i hlt
    have hS := laid_length (D.O.take i) D.S
    have hlt2 := laid_take (S := D.S) hlt
    obtain ⟨x, hx⟩ : ∃ x, D.O[i] = x := ⟨_, rfl⟩
    rw [hx] at ha hb hx1 hx2 hlt2
    repeat (first | (refine MC.run1 tab 1000 rfl rfl (by first | exact True.intro | (simp only [Conds, rng, Int.toNat_natCast, List.length_append, bytesV_length] <;> omega) | (simp [Conds, rng] <;> omega) | (simp only [Conds, rng, wrap_u8, wrap_u16, wrap_u32, wrap_u64] <;> omega)) ?_) | (refine MC.la true (la_load1 hs rfl (by rfl)) rfl ?_) | (refine MC.part rfl rfl (fun h => absurd h (by first | decide | omega)) (fun _ => ?_)) | (refine MC.part rfl rfl (fun _ => ?_) (fun h => absurd (by first | decide | omega) h)) | (refine MC.cond rfl (fun h => absurd h (by first | decide | omega)) (fun _ => ?_)) | (refine MC.cond rfl (fun _ => ?_) (fun h => absurd (by first | decide | omega) h)))
    refine MC.draw hs [0,1,2,3,4,5,6,7,8,9,10,11,12,13,14,15,16,17,18,19,20,21] (by rfl) ?_; intro w hs
    repeat (first | (refine MC.run1 tab 1000 rfl rfl (by first | exact True.intro | (simp only [Conds, rng, Int.toNat_natCast, List.length_append, bytesV_length] <;> omega) | (simp [Conds, rng] <;> omega) | (simp only [Conds, rng, wrap_u8, wrap_u16, wrap_u32, wrap_u64] <;> omega)) ?_) | (refine MC.laD true (la_load1 hs rfl (by rfl)) rfl ?_) | (refine MC.part rfl rfl (fun h => absurd h (by first | decide | omega)) (fun _ => ?_)) | (refine MC.part rfl rfl (fun _ => ?_) (fun h => absurd (by first | decide | omega) h)) | (refine MC.cond rfl (fun h => absurd h (by first | decide | omega)) (fun _ => ?_)) | (refine MC.cond rfl (fun _ => ?_) (fun h => absurd (by first | decide | omega) h)))
    refine MC.laD true (la_load1_rd hr hs (j := ((i : Nat) : Int).toNat * 2) rfl ha) rfl ?_
    repeat (first | (refine MC.run1 tab 1000 rfl rfl (by first | exact True.intro | (simp only [Conds, rng, Int.toNat_natCast, List.length_append, bytesV_length] <;> omega) | (simp [Conds, rng] <;> omega) | (simp only [Conds, rng, wrap_u8, wrap_u16, wrap_u32, wrap_u64] <;> omega)) ?_) | (refine MC.laD true (la_load1 hs rfl (by rfl)) rfl ?_) | (refine MC.part rfl rfl (fun h => absurd h (by first | decide | omega)) (fun _ => ?_)) | (refine MC.part rfl rfl (fun _ => ?_) (fun h => absurd (by first | decide | omega) h)) | (refine MC.cond rfl (fun h => absurd h (by first | decide | omega)) (fun _ => ?_)) | (refine MC.cond rfl (fun _ => ?_) (fun h => absurd (by first | decide | omega) h)))
    refine MC.laD true (la_load1_rd hr hs (j := ((i : Nat) : Int).toNat * 2 + 1) rfl hb) rfl ?_
    repeat (first | (refine MC.run1 tab 1000 rfl rfl (by first | exact True.intro | (simp only [Conds, rng, Int.toNat_natCast, List.length_append, bytesV_length] <;> omega) | (simp [Conds, rng] <;> omega) | (simp only [Conds, rng, wrap_u8, wrap_u16, wrap_u32, wrap_u64] <;> omega)) ?_) | (refine MC.laD true (la_load1 hs rfl (by rfl)) rfl ?_) | (refine MC.part rfl rfl (fun h => absurd h (by first | decide | omega)) (fun _ => ?_)) | (refine MC.part rfl rfl (fun _ => ?_) (fun h => absurd (by first | decide | omega) h)) | (refine MC.cond rfl (fun h => absurd h (by first | decide | omega)) (fun _ => ?_)) | (refine MC.cond rfl (fun _ => ?_) (fun h => absurd (by first | decide | omega) h)))
    refine MC.doesD true (does_store1 hs rfl rfl rfl (by first | decide | (simp; done) | (simp; omega))) rfl rfl rfl rfl ?_; intro _ w hs
    have ek : (0 + ((x.1 : Nat) : Int).toNat * 1) = x.1 := by rw [Int.toNat_natCast]; omega
    rw [ek, strV_set _ _ _ _ (by omega), ← hlt2] at hs
    repeat (first | (refine MC.run1 tab 1000 rfl rfl (by first | exact True.intro | (simp only [Conds, rng, Int.toNat_natCast, List.length_append, bytesV_length] <;> omega) | (simp [Conds, rng] <;> omega) | (simp only [Conds, rng, wrap_u8, wrap_u16, wrap_u32, wrap_u64] <;> omega)) ?_) | (refine MC.laD true (la_load1 hs rfl (by rfl)) rfl ?_) | (refine MC.part rfl rfl (fun h => absurd h (by first | decide | omega)) (fun _ => ?_)) | (refine MC.part rfl rfl (fun _ => ?_) (fun h => absurd (by first | decide | omega) h)) | (refine MC.cond rfl (fun h => absurd h (by first | decide | omega)) (fun _ => ?_)) | (refine MC.cond rfl (fun _ => ?_) (fun h => absurd (by first | decide | omega) h)))
    repeat (first | (refine MC.run1 tab 1000 rfl rfl (by first | exact True.intro | (simp only [Conds, rng, Int.toNat_natCast, List.length_append, bytesV_length] <;> omega) | (simp [Conds, rng] <;> omega) | (simp only [Conds, rng, wrap_u8, wrap_u16, wrap_u32, wrap_u64] <;> omega)) ?_) | (refine MC.la true (la_load1 hs rfl (by rfl)) rfl ?_) | (refine MC.part rfl rfl (fun h => absurd h (by first | decide | omega)) (fun _ => ?_)) | (refine MC.part rfl rfl (fun _ => ?_) (fun h => absurd (by first | decide | omega) h)) | (refine MC.cond rfl (fun h => absurd h (by first | decide | omega)) (fun _ => ?_)) | (refine MC.cond rfl (fun _ => ?_) (fun h => absurd (by first | decide | omega) h)))
    exact MC.again (i + 1) (by repeat (first | exact trivial | refine ⟨rfl, ?_⟩)) ⟨hlt, hs⟩ (by omega)
  · obtain rfl : i = D.O.length := by omega
    rw [List.take_length] at hs
    repeat (first | (refine MC.run1 tab 1000 rfl rfl (by first | exact True.intro | (simp only [Conds, rng, Int.toNat_natCast, List.length_append, bytesV_length] <;> omega) | (simp [Conds, rng] <;> omega) | (simp only [Conds, rng, wrap_u8, wrap_u16, wrap_u32, wrap_u64] <;> omega)) ?_) | (refine MC.la true (la_load1 hs rfl (by rfl)) rfl ?_) | (refine MC.part rfl rfl (fun h => absurd h (by first | decide | omega)) (fun _ => ?_)) | (refine MC.part rfl rfl (fun _ => ?_) (fun h => absurd (by first | decide | omega) h)) | (refine MC.cond rfl (fun h => absurd h (by first | decide | omega)) (fun _ => ?_)) | (refine MC.cond rfl (fun _ => ?_) (fun h => absurd (by first | decide | omega) h)))
    refine MC.does true (does_store1 hs rfl rfl rfl (by first | decide | (simp; done) | (simp; omega))) rfl ?_; intro _ w hs
    have hll := laid_length D.O D.S
    have hfin : ∀ (w : World) (f : Int), Sat (blk bs (strV (laid D.S D.O) ++ spare) 9 :: blk p [.slice (some ⟨bs, 0, none⟩) D.S.length cs, .slice none 0 0, int rd, int f] 91 :: sl (.slice qo D.O.length co) 113 2 D.O.length (wrV D.O) :: F) w →
        Sat (blk p [.slice (some ⟨bs, 0, none⟩) D.S.length cs, .slice none 0 0, int rd, int f] 91 :: sl (.slice (some ⟨bs, 0, none⟩) D.S.length cs) 9 1 D.sync.S.length (strV D.sync.S) :: sl (.slice none 0 0) 113 2 D.sync.O.length (wrV D.sync.O) :: F) w := fun w f hs => by
      have h1 : Sat (sl (.slice (some ⟨bs, 0, none⟩) D.S.length cs) 9 1 D.S.length (strV (laid D.S D.O)) :: blk p [.slice (some ⟨bs, 0, none⟩) D.S.length cs, .slice none 0 0, int rd, int f] 91 :: sl (.slice qo D.O.length co) 113 2 D.O.length (wrV D.O) :: F) w := Sat.sl_mk hs hcs (by rw [strV_length, hll, Nat.mul_one]) (by rw [strV_length] at hsp ⊢; rw [hll]; exact hsp)
      show Sat (blk p _ _ :: sl _ _ 1 (laid D.S D.O).length (strV (laid D.S D.O)) :: sl _ _ 2 0 [] :: F) w
      rw [hll]
      exact ((h1.pickF 3 [1, 0] rfl rfl).sl_nil 113 2).pickF 3 [1, 2, 0] rfl rfl
    by_cases h1 : 1 < D.fuse
    · repeat (first | (refine MC.run1 tab 1000 rfl rfl (by first | exact True.intro | (simp only [Conds, rng, Int.toNat_natCast, List.length_append, bytesV_length] <;> omega) | (simp [Conds, rng] <;> omega) | (simp only [Conds, rng, wrap_u8, wrap_u16, wrap_u32, wrap_u64] <;> omega)) ?_) | (refine MC.la true (la_load1 hs rfl (by rfl)) rfl ?_) | (refine MC.part rfl rfl (fun h => absurd h (by first | decide | omega)) (fun _ => ?_)) | (refine MC.part rfl rfl (fun _ => ?_) (fun h => absurd (by first | decide | omega) h)) | (refine MC.cond rfl (fun h => absurd h (by first | decide | omega)) (fun _ => ?_)) | (refine MC.cond rfl (fun _ => ?_) (fun h => absurd (by first | decide | omega) h)))
      refine MC.does true (does_store1 hs rfl rfl rfl (by first | decide | (simp; done) | (simp; omega))) rfl ?_; intro _ w hs
      repeat (first | (refine MC.run1 tab 1000 rfl rfl (by first | exact True.intro | (simp only [Conds, rng, Int.toNat_natCast, List.length_append, bytesV_length] <;> omega) | (simp [Conds, rng] <;> omega) | (simp only [Conds, rng, wrap_u8, wrap_u16, wrap_u32, wrap_u64] <;> omega)) ?_) | (refine MC.la true (la_load1 hs rfl (by rfl)) rfl ?_) | (refine MC.part rfl rfl (fun h => absurd h (by first | decide | omega)) (fun _ => ?_)) | (refine MC.part rfl rfl (fun _ => ?_) (fun h => absurd (by first | decide | omega) h)) | (refine MC.cond rfl (fun h => absurd h (by first | decide | omega)) (fun _ => ?_)) | (refine MC.cond rfl (fun _ => ?_) (fun h => absurd (by first | decide | omega) h)))
      refine MC.ret rfl ?_
      refine ⟨rfl, rdev_shut (D := D.sync) (vs := .slice (some ⟨bs, 0, none⟩) D.S.length cs) (vo := .slice none 0 0) (rd := rd) ?_⟩
      rw [show D.sync.fuse - 1 = D.fuse - 1 - 1 by show burnt D.fuse - 1 = _; unfold burnt; rw [if_pos h1]]
      exact hfin w _ hs
    · repeat (first | (refine MC.run1 tab 1000 rfl rfl (by first | exact True.intro | (simp only [Conds, rng, Int.toNat_natCast, List.length_append, bytesV_length] <;> omega) | (simp [Conds, rng] <;> omega) | (simp only [Conds, rng, wrap_u8, wrap_u16, wrap_u32, wrap_u64] <;> omega)) ?_) | (refine MC.la true (la_load1 hs rfl (by rfl)) rfl ?_) | (refine MC.part rfl rfl (fun h => absurd h (by first | decide | omega)) (fun _ => ?_)) | (refine MC.part rfl rfl (fun _ => ?_) (fun h => absurd (by first | decide | omega) h)) | (refine MC.cond rfl (fun h => absurd h (by first | decide | omega)) (fun _ => ?_)) | (refine MC.cond rfl (fun _ => ?_) (fun h => absurd (by first | decide | omega) h)))
      refine MC.ret rfl ?_
      refine ⟨rfl, rdev_shut (D := D.sync) (vs := .slice (some ⟨bs, 0, none⟩) D.S.length cs) (vo := .slice none 0 0) (rd := rd) ?_⟩
      rw [show D.sync.fuse - 1 = D.fuse - 1 by show burnt D.fuse - 1 = _; unfold burnt; rw [if_neg h1]]
      exact hfin w _ hs
end Go.Proofs.YtoigogonccjagaaDoor

namespace Go.Proofs.YtoigogonccjagaaDoor
open Go Go.Sl Go.Jn
attribute [local irreducible] LooksAt sumB sumF recB

theorem rnew_spec {F : List Assn} {n : Nat} {w : World} (hs : Sat F w) (h1 : 1 ≤ n) (h2 : n ≤ 8192) :
    Ret Tryd.prog 40 [int ((n : Nat) : Int)] w fun v w' => ∃ p, v = .tuple #[ptr p, int 0] ∧ Sat (rdev p (Dev.new n) :: F) w' := by
  refine Ret.enter [(true, int ((n : Nat) : Int))] _ Tryd.func40 rfl Tryd.ntmps40 rfl ?_
  repeat (first | (refine MC.run1 tab 1000 rfl rfl (by first | exact True.intro | (simp only [Conds, rng, Int.toNat_natCast, List.length_append, bytesV_length] <;> omega) | (simp [Conds, rng] <;> omega) | (simp only [Conds, rng, wrap_u8, wrap_u16, wrap_u32, wrap_u64] <;> omega)) ?_) | (refine MC.la true (la_load1 hs rfl (by rfl)) rfl ?_) | (refine MC.part rfl rfl (fun h => absurd h (by first | decide | omega)) (fun _ => ?_)) | (refine MC.part rfl rfl (fun _ => ?_) (fun h => absurd (by first | decide | omega) h)) | (refine MC.cond rfl (fun h => absurd h (by first | decide | omega)) (fun _ => ?_)) | (refine MC.cond rfl (fun _ => ?_) (fun h => absurd (by first | decide | omega) h)))
  refine MC.pure (f := true) (po_build (ls := [(3, [int (-1)])]) (out := [.slice none 0 0, .slice none 0 0, int 0, int (-1)]) rfl rfl ⟨⟨_, rfl, by simp⟩, trivial⟩ rfl) rfl ?_
  refine MC.does true (does_box hs rfl rfl) rfl ?_; rintro _ w ⟨p, rfl, hs⟩
  repeat (first | (refine MC.run1 tab 1000 rfl rfl (by first | exact True.intro | (simp only [Conds, rng, Int.toNat_natCast, List.length_append, bytesV_length] <;> omega) | (simp [Conds, rng] <;> omega) | (simp only [Conds, rng, wrap_u8, wrap_u16, wrap_u32, wrap_u64] <;> omega)) ?_) | (refine MC.la true (la_load1 hs rfl (by rfl)) rfl ?_) | (refine MC.part rfl rfl (fun h => absurd h (by first | decide | omega)) (fun _ => ?_)) | (refine MC.part rfl rfl (fun _ => ?_) (fun h => absurd (by first | decide | omega) h)) | (refine MC.cond rfl (fun h => absurd h (by first | decide | omega)) (fun _ => ?_)) | (refine MC.cond rfl (fun _ => ?_) (fun h => absurd (by first | decide | omega) h)))
  have hs : Sat (blk p [.slice none 0 0, .slice none 0 0, int 0, int (-1)] 91 :: sl (.slice none 0 0) 9 1 0 (strV (List.replicate 0 (many 256 0))) :: F) w := (hs.sl_nil 9 1).swap
  refine MC.loop (σ := Nat × Value) (fun x => [(0, true, int ((n : Nat) : Int)), (4, true, ptr p), (5, true, int ((x.1 : Nat) : Int))])
    (fun x w => x.1 ≤ n ∧ Sat (blk p [x.2, .slice none 0 0, int 0, int (-1)] 91 :: sl x.2 9 1 x.1 (strV (List.replicate x.1 (many 256 0))) :: F) w) (fun x => n - x.1) (0, .slice none 0 0) (by repeat (first | exact trivial | refine ⟨rfl, ?_⟩)) ⟨Nat.zero_le _, hs⟩ ?_
  rintro ⟨i, vs⟩ w hx
  clear hs
  replace hx : i ≤ n ∧ Sat (blk p [vs, .slice none 0 0, int 0, int (-1)] 91 :: sl vs 9 1 i (strV (List.replicate i (many 256 0))) :: F) w := hx
  obtain ⟨hi, hs⟩ := hx
  obtain ⟨-, qs, cs, rfl, -⟩ := (hs.pull 1 rfl).sl_len
  dsimp only []
  rcases Nat.lt_or_ge i n with hlt | hge
  · repeat (first | (refine MC.run1 tab 1000 rfl rfl (by first | exact True.intro | (simp only [Conds, rng, Int.toNat_natCast, List.length_append, bytesV_length] <;> omega) | (simp [Conds, rng] <;> omega) | (simp only [Conds, rng, wrap_u8, wrap_u16, wrap_u32, wrap_u64] <;> omega)) ?_) | (refine MC.la true (la_load1 hs rfl (by rfl)) rfl ?_) | (refine MC.part rfl rfl (fun h => absurd h (by first | decide | omega)) (fun _ => ?_)) | (refine MC.part rfl rfl (fun _ => ?_) (fun h => absurd (by first | decide | omega) h)) | (refine MC.cond rfl (fun h => absurd h (by first | decide | omega)) (fun _ => ?_)) | (refine MC.cond rfl (fun _ => ?_) (fun h => absurd (by first | decide | omega) h)))
    refine MC.draw hs [0,1,2,3,4,5,6,7,8,9,10,11] (by rfl) ?_; intro w hs
    repeat (first | (refine MC.run1 tab 1000 rfl rfl (by first | exact True.intro | (simp only [Conds, rng, Int.toNat_natCast, List.length_append, bytesV_length] <;> omega) | (simp [Conds, rng] <;> omega) | (simp only [Conds, rng, wrap_u8, wrap_u16, wrap_u32, wrap_u64] <;> omega)) ?_) | (refine MC.laD true (la_load1 hs rfl (by rfl)) rfl ?_) | (refine MC.part rfl rfl (fun h => absurd h (by first | decide | omega)) (fun _ => ?_)) | (refine MC.part rfl rfl (fun _ => ?_) (fun h => absurd (by first | decide | omega) h)) | (refine MC.cond rfl (fun h => absurd h (by first | decide | omega)) (fun _ => ?_)) | (refine MC.cond rfl (fun _ => ?_) (fun h => absurd (by first | decide | omega) h)))
    refine MC.doesK true (does_makeSliceI 256 256 hs rfl rfl (by omega) (by omega) (Nat.le_refl _) (by omega) (by omega)) rfl rfl rfl ?_
    rintro _ w ⟨b1, rfl, hs⟩
    refine ⟨(by repeat (first | exact True.intro | refine ⟨At.sat hs, ?_⟩ | refine ⟨Suf.sat hs, ?_⟩)), ?_⟩
    rw [← zeros_bytes] at hs
    have hs : Sat (sl (.slice (some ⟨b1, 0, none⟩) 256 256) 5 1 256 (bytesV (many 256 0)) :: blk p [.slice qs i cs, .slice none 0 0, int 0, int (-1)] 91 :: sl (.slice qs i cs) 9 1 i (strV (List.replicate i (many 256 0))) :: F) w := Sat.sl_mk (spare := []) (by rw [List.append_nil]; exact hs) (Nat.le_refl _) (by simp) (by simp)
    obtain ⟨Z, hz⟩ : ∃ Z, many 256 0 = Z := ⟨_, rfl⟩
    rw [hz] at hs
    have hs := hs.pickF 3 [1, 2, 0] rfl rfl
    rw [← hz] at hs
    rw [hz] at hs
    have hrz := RdS.of_sl hs.tail.tail
    repeat (first | (refine MC.run1 tab 1000 rfl rfl (by first | exact True.intro | (simp only [Conds, rng, Int.toNat_natCast, List.length_append, bytesV_length] <;> omega) | (simp [Conds, rng] <;> omega) | (simp only [Conds, rng, wrap_u8, wrap_u16, wrap_u32, wrap_u64] <;> omega)) ?_) | (refine MC.laD true (la_load1 hs rfl (by rfl)) rfl ?_) | (refine MC.part rfl rfl (fun h => absurd h (by first | decide | omega)) (fun _ => ?_)) | (refine MC.part rfl rfl (fun _ => ?_) (fun h => absurd (by first | decide | omega) h)) | (refine MC.cond rfl (fun h => absurd h (by first | decide | omega)) (fun _ => ?_)) | (refine MC.cond rfl (fun _ => ?_) (fun h => absurd (by first | decide | omega) h)))
    refine MC.laD true (la_tostr rfl hrz hs) rfl ?_
    repeat (first | (refine MC.run1 tab 1000 rfl rfl (by first | exact True.intro | (simp only [Conds, rng, Int.toNat_natCast, List.length_append, bytesV_length] <;> omega) | (simp [Conds, rng] <;> omega) | (simp only [Conds, rng, wrap_u8, wrap_u16, wrap_u32, wrap_u64] <;> omega)) ?_) | (refine MC.laD true (la_load1 hs rfl (by rfl)) rfl ?_) | (refine MC.part rfl rfl (fun h => absurd h (by first | decide | omega)) (fun _ => ?_)) | (refine MC.part rfl rfl (fun _ => ?_) (fun h => absurd (by first | decide | omega) h)) | (refine MC.cond rfl (fun h => absurd h (by first | decide | omega)) (fun _ => ?_)) | (refine MC.cond rfl (fun _ => ?_) (fun h => absurd (by first | decide | omega) h)))
    refine MC.doesK true (does_buildL hs rfl rfl rfl (by first | (intro u hu; simp only [List.mem_cons, List.not_mem_nil, or_false] at hu; rcases hu with rfl | rfl | rfl | rfl | rfl | rfl | rfl | rfl <;> rfl) | (intro u hu; simp only [List.mem_cons, List.not_mem_nil, or_false] at hu; rcases hu with rfl | rfl | rfl | rfl <;> rfl) | (intro u hu; simp only [List.mem_cons, List.not_mem_nil, or_false] at hu; rcases hu with rfl | rfl <;> rfl) | (intro u hu; simp only [List.mem_cons, List.not_mem_nil, or_false] at hu; subst hu; rfl)) rfl) rfl rfl rfl ?_; rintro _ w ⟨b2, rfl, hs⟩; refine ⟨(by repeat (first | exact True.intro | refine ⟨At.sat hs, ?_⟩ | refine ⟨Suf.sat hs, ?_⟩)), ?_⟩
    repeat (first | (refine MC.run1 tab 1000 rfl rfl (by first | exact True.intro | (simp only [Conds, rng, Int.toNat_natCast, List.length_append, bytesV_length] <;> omega) | (simp [Conds, rng] <;> omega) | (simp only [Conds, rng, wrap_u8, wrap_u16, wrap_u32, wrap_u64] <;> omega)) ?_) | (refine MC.laD true (la_load1 hs rfl (by rfl)) rfl ?_) | (refine MC.part rfl rfl (fun h => absurd h (by first | decide | omega)) (fun _ => ?_)) | (refine MC.part rfl rfl (fun _ => ?_) (fun h => absurd (by first | decide | omega) h)) | (refine MC.cond rfl (fun h => absurd h (by first | decide | omega)) (fun _ => ?_)) | (refine MC.cond rfl (fun _ => ?_) (fun h => absurd (by first | decide | omega) h)))
    refine MC.doesK true (does_append hs rfl rfl (src_at rfl (by first | (intro u hu; simp only [List.mem_cons, List.not_mem_nil, or_false] at hu; rcases hu with rfl | rfl | rfl | rfl | rfl | rfl | rfl | rfl <;> rfl) | (intro u hu; simp only [List.mem_cons, List.not_mem_nil, or_false] at hu; rcases hu with rfl | rfl | rfl | rfl <;> rfl) | (intro u hu; simp only [List.mem_cons, List.not_mem_nil, or_false] at hu; rcases hu with rfl | rfl <;> rfl) | (intro u hu; simp only [List.mem_cons, List.not_mem_nil, or_false] at hu; subst hu; rfl))) (by omega) (by omega)) rfl rfl rfl ?_
    intro va w hs
    refine ⟨(by repeat (first | exact True.intro | refine ⟨At.sat hs, ?_⟩ | refine ⟨Suf.sat hs, ?_⟩)), ?_⟩
    obtain ⟨-, qa, ca, rfl, -⟩ := (hs.pull 2 rfl).sl_len
    repeat (first | (refine MC.run1 tab 1000 rfl rfl (by first | exact True.intro | (simp only [Conds, rng, Int.toNat_natCast, List.length_append, bytesV_length] <;> omega) | (simp [Conds, rng] <;> omega) | (simp only [Conds, rng, wrap_u8, wrap_u16, wrap_u32, wrap_u64] <;> omega)) ?_) | (refine MC.laD true (la_load1 hs rfl (by rfl)) rfl ?_) | (refine MC.part rfl rfl (fun h => absurd h (by first | decide | omega)) (fun _ => ?_)) | (refine MC.part rfl rfl (fun _ => ?_) (fun h => absurd (by first | decide | omega) h)) | (refine MC.cond rfl (fun h => absurd h (by first | decide | omega)) (fun _ => ?_)) | (refine MC.cond rfl (fun _ => ?_) (fun h => absurd (by first | decide | omega) h)))
    refine MC.doesD true (does_store1 hs rfl rfl rfl (by first | decide | (simp; done) | (simp; omega))) rfl rfl rfl rfl ?_; intro _ w hs
    repeat (first | (refine MC.run1 tab 1000 rfl rfl (by first | exact True.intro | (simp only [Conds, rng, Int.toNat_natCast, List.length_append, bytesV_length] <;> omega) | (simp [Conds, rng] <;> omega) | (simp only [Conds, rng, wrap_u8, wrap_u16, wrap_u32, wrap_u64] <;> omega)) ?_) | (refine MC.laD true (la_load1 hs rfl (by rfl)) rfl ?_) | (refine MC.part rfl rfl (fun h => absurd h (by first | decide | omega)) (fun _ => ?_)) | (refine MC.part rfl rfl (fun _ => ?_) (fun h => absurd (by first | decide | omega) h)) | (refine MC.cond rfl (fun h => absurd h (by first | decide | omega)) (fun _ => ?_)) | (refine MC.cond rfl (fun _ => ?_) (fun h => absurd (by first | decide | omega) h)))
    repeat (first | (refine MC.run1 tab 1000 rfl rfl (by first | exact True.intro | (simp only [Conds, rng, Int.toNat_natCast, List.length_append, bytesV_length] <;> omega) | (simp [Conds, rng] <;> omega) | (simp only [Conds, rng, wrap_u8, wrap_u16, wrap_u32, wrap_u64] <;> omega)) ?_) | (refine MC.la true (la_load1 hs rfl (by rfl)) rfl ?_) | (refine MC.part rfl rfl (fun h => absurd h (by first | decide | omega)) (fun _ => ?_)) | (refine MC.part rfl rfl (fun _ => ?_) (fun h => absurd (by first | decide | omega) h)) | (refine MC.cond rfl (fun h => absurd h (by first | decide | omega)) (fun _ => ?_)) | (refine MC.cond rfl (fun _ => ?_) (fun h => absurd (by first | decide | omega) h)))
    refine MC.again (i + 1, .slice qa (i + 1) ca) (by repeat (first | exact trivial | refine ⟨rfl, ?_⟩)) ⟨hlt, ?_⟩ (by show n - (i + 1) < n - i; omega)
    show Sat (blk p [.slice qa (i + 1) ca, .slice none 0 0, int 0, int (-1)] _ :: sl (.slice qa (i + 1) ca) _ 1 (i + 1) (strV (List.replicate (i + 1) (many 256 0))) :: F) w
    have e : strV (List.replicate (i + 1) (many 256 0)) = strV (List.replicate i Z) ++ [str Z] := by
      rw [List.replicate_succ', hz]; simp [strV]
    rw [e]
    rw [← hz] at hs
    exact (by rw [hz] at hs; exact hs.tail.pickF 3 [0, 1] rfl rfl)
  · obtain rfl : i = n := by omega
    repeat (first | (refine MC.run1 tab 1000 rfl rfl (by first | exact True.intro | (simp only [Conds, rng, Int.toNat_natCast, List.length_append, bytesV_length] <;> omega) | (simp [Conds, rng] <;> omega) | (simp only [Conds, rng, wrap_u8, wrap_u16, wrap_u32, wrap_u64] <;> omega)) ?_) | (refine MC.la true (la_load1 hs rfl (by rfl)) rfl ?_) | (refine MC.part rfl rfl (fun h => absurd h (by first | decide | omega)) (fun _ => ?_)) | (refine MC.part rfl rfl (fun _ => ?_) (fun h => absurd (by first | decide | omega) h)) | (refine MC.cond rfl (fun h => absurd h (by first | decide | omega)) (fun _ => ?_)) | (refine MC.cond rfl (fun _ => ?_) (fun h => absurd (by first | decide | omega) h)))
    refine MC.ret rfl ?_
    refine ⟨p, rfl, rdev_shut (D := Dev.new i) (vs := .slice qs i cs) (vo := .slice none 0 0) (rd := 0) ?_⟩
    show Sat (blk p [.slice qs i cs, .slice none 0 0, int 0, int (-1)] _ :: sl (.slice qs i cs) _ 1 (List.replicate i (many 256 0)).length (strV (List.replicate i (many 256 0))) :: sl (.slice none 0 0) _ 2 0 [] :: F) w
    rw [List.length_replicate]
    exact (hs.sl_nil 113 2).pickF 3 [1, 2, 0] rfl rfl
end Go.Proofs.YtoigogonccjagaaDoor

namespace Go.Proofs.YtoigogonccjagaaDoor
open Go Go.Sl Go.Jn
attribute [local irreducible] LooksAt sumB sumF recB

theorem rget_spec {F : List Assn} {p k : Nat} {D : Dev} {w : World} (hs : Sat (rdev p D :: F) w) (hD : D.ok) (hO : D.O = []) (hf : D.fuse ≠ 1) (hk : k < D.S.length) :
    Ret Tryd.prog 61 [ptr p, int ((k : Nat) : Int)] w fun v w' => v = .tuple #[str (D.S.getD k []), int 0] ∧ Sat (rdev p D :: F) w' := by
  have hfew := hD.few
  obtain ⟨vs, vo, rd, hs⟩ := rdev_open hs
  obtain ⟨-, qs, cs, rfl, -⟩ := (hs.pull 1 rfl).sl_len
  obtain ⟨-, qo, co, rfl, -⟩ := (hs.pull 2 rfl).sl_len
  have hOl : D.O.length = 0 := by rw [hO]; rfl
  have hz : ¬ D.fuse - 1 = 0 := by omega
  have hat : (strV D.S)[((k : Nat) : Int).toNat * 1]? = some (str (D.S.getD k [])) := by
    rw [Int.toNat_natCast, Nat.mul_one, List.getD_eq_getElem?_getD]
    simp [strV, hk]
  obtain ⟨bs, os, rfl, hr⟩ := (RdS.of_sl hs.tail).at_ (by omega)
  refine Ret.enter [(true, ptr p), (true, int ((k : Nat) : Int))] _ Tryd.func61 rfl Tryd.ntmps61 rfl ?_
  repeat (first | (refine MC.run1 tab 1 rfl rfl (by first | exact True.intro | omega) ?_) | (refine MC.la true (la_load1 hs rfl (by rfl)) rfl ?_) | (refine MC.part rfl rfl (fun h => absurd h (by first | decide | omega)) (fun _ => ?_)) | (refine MC.part rfl rfl (fun _ => ?_) (fun h => absurd (by first | decide | omega) h)) | (refine MC.cond rfl (fun h => absurd h (by first | decide | omega)) (fun _ => ?_)) | (refine MC.cond rfl (fun _ => ?_) (fun h => absurd (by first | decide | omega) h)))
  refine MC.pure (f := true) (po_bin rfl rfl (br_add rfl)) rfl ?_
  repeat (first | (refine MC.run1 tab 1000 rfl rfl (by first | exact True.intro | (simp only [Conds, rng, Int.toNat_natCast, List.length_append, bytesV_length] <;> omega) | (simp [Conds, rng] <;> omega) | (simp only [Conds, rng, wrap_u8, wrap_u16, wrap_u32, wrap_u64] <;> omega)) ?_) | (refine MC.la true (la_load1 hs rfl (by rfl)) rfl ?_) | (refine MC.part rfl rfl (fun h => absurd h (by first | decide | omega)) (fun _ => ?_)) | (refine MC.part rfl rfl (fun _ => ?_) (fun h => absurd (by first | decide | omega) h)) | (refine MC.cond rfl (fun h => absurd h (by first | decide | omega)) (fun _ => ?_)) | (refine MC.cond rfl (fun _ => ?_) (fun h => absurd (by first | decide | omega) h)))
  refine MC.does true (does_store1 hs rfl rfl rfl (by first | decide | (simp; done) | (simp; omega))) rfl ?_; intro _ w hs
  repeat (first | (refine MC.run1 tab 1000 rfl rfl (by first | exact True.intro | (simp only [Conds, rng, Int.toNat_natCast, List.length_append, bytesV_length] <;> omega) | (simp [Conds, rng] <;> omega) | (simp only [Conds, rng, wrap_u8, wrap_u16, wrap_u32, wrap_u64] <;> omega)) ?_) | (refine MC.la true (la_load1 hs rfl (by rfl)) rfl ?_) | (refine MC.part rfl rfl (fun h => absurd h (by first | decide | omega)) (fun _ => ?_)) | (refine MC.part rfl rfl (fun _ => ?_) (fun h => absurd (by first | decide | omega) h)) | (refine MC.cond rfl (fun h => absurd h (by first | decide | omega)) (fun _ => ?_)) | (refine MC.cond rfl (fun _ => ?_) (fun h => absurd (by first | decide | omega) h)))
  refine MC.la true (la_load1_rd hr hs (j := ((k : Nat) : Int).toNat * 1) rfl hat) rfl ?_
  repeat (first | (refine MC.run1 tab 1000 rfl rfl (by first | exact True.intro | (simp only [Conds, rng, Int.toNat_natCast, List.length_append, bytesV_length] <;> omega) | (simp [Conds, rng] <;> omega) | (simp only [Conds, rng, wrap_u8, wrap_u16, wrap_u32, wrap_u64] <;> omega)) ?_) | (refine MC.la true (la_load1 hs rfl (by rfl)) rfl ?_) | (refine MC.part rfl rfl (fun h => absurd h (by first | decide | omega)) (fun _ => ?_)) | (refine MC.part rfl rfl (fun _ => ?_) (fun h => absurd (by first | decide | omega) h)) | (refine MC.cond rfl (fun h => absurd h (by first | decide | omega)) (fun _ => ?_)) | (refine MC.cond rfl (fun _ => ?_) (fun h => absurd (by first | decide | omega) h)))
  refine MC.loop (σ := Unit) (fun _ => [(0, true, ptr p), (1, true, int ((k : Nat) : Int)), (6, true, str (D.S.getD k [])), (7, true, int 0)]) (fun _ w' => w' = w) (fun _ => 0) () (by repeat (first | exact trivial | refine ⟨rfl, ?_⟩)) rfl ?_
  rintro _ w' rfl
  repeat (first | (refine MC.run1 tab 1000 rfl rfl (by first | exact True.intro | (simp only [Conds, rng, Int.toNat_natCast, List.length_append, bytesV_length] <;> omega) | (simp [Conds, rng] <;> omega) | (simp only [Conds, rng, wrap_u8, wrap_u16, wrap_u32, wrap_u64] <;> omega)) ?_) | (refine MC.la true (la_load1 hs rfl (by rfl)) rfl ?_) | (refine MC.part rfl rfl (fun h => absurd h (by first | decide | omega)) (fun _ => ?_)) | (refine MC.part rfl rfl (fun _ => ?_) (fun h => absurd (by first | decide | omega) h)) | (refine MC.cond rfl (fun h => absurd h (by first | decide | omega)) (fun _ => ?_)) | (refine MC.cond rfl (fun _ => ?_) (fun h => absurd (by first | decide | omega) h)))
  refine MC.ret rfl ?_
  exact ⟨rfl, rdev_shut hs⟩
theorem run_fold {D : Dev} (hO : D.O = []) (k : Nat) : D.get k = D.S.getD k [] := by unfold Dev.get; rw [hO]; rfl
theorem rstretch_spec {F : List Assn} {p fr n : Nat} {D : Dev} {w : World} (hs : Sat (rdev p D :: F) w) (hD : D.ok) (hO : D.O = []) (hf : D.fuse ≠ 1) (hk : fr + n ≤ D.S.length) :
    Ret Tryd.prog 49 [ptr p, int ((fr : Nat) : Int), int ((n : Nat) : Int)] w fun v w' => v = .tuple #[str (D.run fr n), int 0] ∧ Sat (rdev p D :: F) w' := by
  have hfew := hD.few
  refine Ret.enter [(true, ptr p), (true, int ((fr : Nat) : Int)), (true, int ((n : Nat) : Int))] _ Tryd.func49 rfl Tryd.ntmps49 rfl ?_
  repeat (first | (refine MC.run1 tab 1000 rfl rfl (by first | exact True.intro | (simp only [Conds, rng, Int.toNat_natCast, List.length_append, bytesV_length] <;> omega) | (simp [Conds, rng] <;> omega) | (simp only [Conds, rng, wrap_u8, wrap_u16, wrap_u32, wrap_u64] <;> omega)) ?_) | (refine MC.la true (la_load1 hs rfl (by rfl)) rfl ?_) | (refine MC.part rfl rfl (fun h => absurd h (by first | decide | omega)) (fun _ => ?_)) | (refine MC.part rfl rfl (fun _ => ?_) (fun h => absurd (by first | decide | omega) h)) | (refine MC.cond rfl (fun h => absurd h (by first | decide | omega)) (fun _ => ?_)) | (refine MC.cond rfl (fun _ => ?_) (fun h => absurd (by first | decide | omega) h)))
  refine MC.loop (σ := Nat) (fun i => [(0, true, ptr p), (1, true, int ((fr : Nat) : Int)), (2, true, int ((n : Nat) : Int)), (8, true, str (D.run fr i)), (9, true, int ((i : Nat) : Int))]) (fun i w => i ≤ n ∧ Sat (rdev p D :: F) w) (fun i => n - i) 0 (by repeat (first | exact trivial | refine ⟨rfl, ?_⟩)) ⟨Nat.zero_le _, hs⟩ ?_
  rintro i w ⟨hi, hs⟩
  rcases Nat.lt_or_ge i n with hlt | hge
  · have hg := rget_spec (k := fr + i) hs hD hO hf (by omega)
    rw [← run_fold hO] at hg
    have hrl := Dev.run_length hD (fr := fr) i (by omega)
    have hgl := get_length hD (k := fr + i) (by omega)
    have hr1 := Dev.run_succ D fr i
    obtain ⟨R0, hR0⟩ : ∃ R0, D.run fr i = R0 := ⟨_, rfl⟩
    obtain ⟨S1, hS1⟩ : ∃ S1, D.get (fr + i) = S1 := ⟨_, rfl⟩
    rw [hR0] at hrl hr1 ⊢
    rw [hS1] at hgl hg hr1
    have ei : ((fr : Nat) : Int) + ((i : Nat) : Int) = ((fr + i : Nat) : Int) := by omega
    repeat (first | (refine MC.run1 tab 1000 rfl rfl (by first | exact True.intro | (simp only [Conds, rng, Int.toNat_natCast, List.length_append, bytesV_length] <;> omega) | (simp [Conds, rng] <;> omega) | (simp only [Conds, rng, wrap_u8, wrap_u16, wrap_u32, wrap_u64] <;> omega)) ?_) | (refine MC.la true (la_load1 hs rfl (by rfl)) rfl ?_) | (refine MC.part rfl rfl (fun h => absurd h (by first | decide | omega)) (fun _ => ?_)) | (refine MC.part rfl rfl (fun _ => ?_) (fun h => absurd (by first | decide | omega) h)) | (refine MC.cond rfl (fun h => absurd h (by first | decide | omega)) (fun _ => ?_)) | (refine MC.cond rfl (fun _ => ?_) (fun h => absurd (by first | decide | omega) h)))
    rw [ei]
    refine MC.does true (does_call rfl (hg)) rfl ?_
    rintro _ w ⟨rfl, hs⟩
    repeat (first | (refine MC.run1 tab 1000 rfl rfl (by first | exact True.intro | (simp only [Conds, rng, Int.toNat_natCast, List.length_append, bytesV_length] <;> omega) | (simp [Conds, rng] <;> omega) | (simp only [Conds, rng, wrap_u8, wrap_u16, wrap_u32, wrap_u64] <;> omega)) ?_) | (refine MC.la true (la_load1 hs rfl (by rfl)) rfl ?_) | (refine MC.part rfl rfl (fun h => absurd h (by first | decide | omega)) (fun _ => ?_)) | (refine MC.part rfl rfl (fun _ => ?_) (fun h => absurd (by first | decide | omega) h)) | (refine MC.cond rfl (fun h => absurd h (by first | decide | omega)) (fun _ => ?_)) | (refine MC.cond rfl (fun _ => ?_) (fun h => absurd (by first | decide | omega) h)))
    rw [← hr1]
    exact MC.again (i + 1) (by repeat (first | exact trivial | refine ⟨rfl, ?_⟩)) ⟨hlt, hs⟩ (by omega)
  · obtain rfl : i = n := by omega
    repeat (first | (refine MC.run1 tab 1000 rfl rfl (by first | exact True.intro | (simp only [Conds, rng, Int.toNat_natCast, List.length_append, bytesV_length] <;> omega) | (simp [Conds, rng] <;> omega) | (simp only [Conds, rng, wrap_u8, wrap_u16, wrap_u32, wrap_u64] <;> omega)) ?_) | (refine MC.la true (la_load1 hs rfl (by rfl)) rfl ?_) | (refine MC.part rfl rfl (fun h => absurd h (by first | decide | omega)) (fun _ => ?_)) | (refine MC.part rfl rfl (fun _ => ?_) (fun h => absurd (by first | decide | omega) h)) | (refine MC.cond rfl (fun h => absurd h (by first | decide | omega)) (fun _ => ?_)) | (refine MC.cond rfl (fun _ => ?_) (fun h => absurd (by first | decide | omega) h)))
    refine MC.ret rfl ?_
    exact ⟨rfl, hs⟩
theorem rregion_spec {F : List Assn} {p fr n : Nat} {D : Dev} {w : World} (hs : Sat (rdev p D :: F) w) (hD : D.ok) (hn : 1 ≤ n) (hk : fr + n ≤ D.S.length) :
    Ret Tryd.prog 58 [ptr p, int ((fr : Nat) : Int), int ((n : Nat) : Int)] w fun v w' => v = bool true ∧ w' = w := by
  have hfew := hD.few
  obtain ⟨vs, vo, rd, hs⟩ := rdev_open hs
  obtain ⟨-, qs, cs, rfl, -⟩ := (hs.pull 1 rfl).sl_len
  refine Ret.enter [(true, ptr p), (true, int ((fr : Nat) : Int)), (true, int ((n : Nat) : Int))] _ Tryd.func58 rfl Tryd.ntmps58 rfl ?_
  repeat (first | (refine MC.run1 tab 1000 rfl rfl (by first | exact True.intro | (simp only [Conds, rng, Int.toNat_natCast, List.length_append, bytesV_length] <;> omega) | (simp [Conds, rng] <;> omega) | (simp only [Conds, rng, wrap_u8, wrap_u16, wrap_u32, wrap_u64] <;> omega)) ?_) | (refine MC.la true (la_load1 hs rfl (by rfl)) rfl ?_) | (refine MC.part rfl rfl (fun h => absurd h (by first | decide | omega)) (fun _ => ?_)) | (refine MC.part rfl rfl (fun _ => ?_) (fun h => absurd (by first | decide | omega) h)) | (refine MC.cond rfl (fun h => absurd h (by first | decide | omega)) (fun _ => ?_)) | (refine MC.cond rfl (fun _ => ?_) (fun h => absurd (by first | decide | omega) h)))
  have e1 : decide (((n : Nat) : Int) ≤ ((D.S.length : Nat) : Int) - ((fr : Nat) : Int)) = true := by simp; omega
  rw [e1]
  repeat (first | (refine MC.run1 tab 1000 rfl rfl (by first | exact True.intro | (simp only [Conds, rng, Int.toNat_natCast, List.length_append, bytesV_length] <;> omega) | (simp [Conds, rng] <;> omega) | (simp only [Conds, rng, wrap_u8, wrap_u16, wrap_u32, wrap_u64] <;> omega)) ?_) | (refine MC.la true (la_load1 hs rfl (by rfl)) rfl ?_) | (refine MC.part rfl rfl (fun h => absurd h (by first | decide | omega)) (fun _ => ?_)) | (refine MC.part rfl rfl (fun _ => ?_) (fun h => absurd (by first | decide | omega) h)) | (refine MC.cond rfl (fun h => absurd h (by first | decide | omega)) (fun _ => ?_)) | (refine MC.cond rfl (fun _ => ?_) (fun h => absurd (by first | decide | omega) h)))
  refine MC.ret rfl ?_
  exact ⟨rfl, rfl⟩
end Go.Proofs.YtoigogonccjagaaDoor

namespace Go.Jn
theorem le_un : ∀ l : Bs, le l.length (un l) = l
  | [] => rfl
  | c :: t => by
    have hc := UInt8.toNat_lt c
    have h1 : (c.toNat + 256 * un t) / 256 = un t := by omega
    simp only [List.length_cons, un, le, h1, le_un t]
    congr 1
    apply UInt8.toNat_inj.1
    rw [UInt8.toNat_ofNat']
    omega
theorem le_un' {l : Bs} {k n : Nat} (h : l.length = k) (hn : un l = n) : le k n = l := by subst h; subst hn; exact le_un l
theorem stands_next {s : Bs} {e n : Nat} {b : Bs} (h : nextB s = some (e, n, b)) : standsB s = (e, n, b, true) := by
  unfold nextB at h
  split at h
  · cases h
  · rename_i h14
    split at h
    · cases h
    · rename_i hL
      split at h
      · rename_i hsum
        injection h with h; injection h with h1 h; injection h with h2 h3
        unfold standsB
        rw [if_neg (by omega), h1, h2, h3]
        have hbl : b.length = un (s.take 2) := by rw [← h3, List.length_take, List.length_drop]; omega
        have e2 : le 2 b.length = s.take 2 := le_un' (by rw [List.length_take]; omega) hbl.symm
        have e4 : le 4 e = (s.drop 2).take 4 := le_un' (by rw [List.length_take, List.length_drop]; omega) h1
        have e6 : le 4 n = (s.drop 6).take 4 := le_un' (by rw [List.length_take, List.length_drop]; omega) h2
        have eh : headB e n b.length = s.take 10 := by
          unfold headB
          rw [e2, e4, e6, show (10 : Nat) = 2 + (4 + 4) from rfl, List.take_add, List.take_add, List.drop_drop]
        have es : le 4 (sumB (headB e n b.length ++ b)) = (s.drop 10).take 4 := le_un' (by rw [List.length_take, List.length_drop]; omega) (by rw [hsum, eh, h3])
        have er : recB e n b = s.take (14 + un (s.take 2)) := by
          unfold recB
          rw [es, eh, show 14 + un (s.take 2) = 10 + (4 + un (s.take 2)) by omega, List.take_add, List.take_add, List.drop_drop]
          rw [show 10 + 4 = 14 from rfl, h3]
        rw [er]
        simp
      · cases h
/-- Each byte is the one that was written, or 0. -/
def torn (r s : Bs) : Prop := ∀ k, k < r.length → s.getD k 0 = r.getD k 0 ∨ s.getD k 0 = 0
instance (r s : Bs) : Decidable (torn r s) := by unfold torn; exact inferInstance
/-- A torn record with the right sum, as the document asks it. -/
def clashB (e : Nat) : Nat → Bs → List Bs → Bool
  | _, _, [] => false
  | i, s, b :: l =>
    if s.length < 14 + b.length then false
    else if s.take (14 + b.length) = recB e i b then clashB e (i + 1) (s.drop (14 + b.length)) l
    else if torn (recB e i b) s then (standsB s).2.2.2 && decide ((standsB s).1 = e) && decide ((standsB s).2.1 = i)
    else false
/-- Behind a loss: up to u as it was written, then as it was written or 0. -/
structure Mix (s B : Bs) (u : Nat) : Prop where
  len : B.length ≤ s.length
  at_ : ∀ x, s.getD x 0 = B.getD x 0 ∨ (u ≤ x ∧ s.getD x 0 = 0)
theorem getD_app_l {a b : Bs} {x : Nat} (h : x < a.length) : (a ++ b).getD x 0 = a.getD x 0 := by
  simp [List.getD_eq_getElem?_getD, List.getElem?_append_left h]
theorem getD_app_r {a b : Bs} (x : Nat) : (a ++ b).getD (a.length + x) 0 = b.getD x 0 := by
  simp [List.getD_eq_getElem?_getD, List.getElem?_append_right]
theorem getD_ext {a b : Bs} (hl : a.length = b.length) (h : ∀ x, x < a.length → a.getD x 0 = b.getD x 0) : a = b := by
  refine List.ext_getElem hl fun i h1 h2 => ?_
  have := h i h1
  simpa [List.getD_eq_getElem?_getD, h1, h2] using this
theorem getD_take' {a : Bs} {n x : Nat} (h : x < n) : (a.take n).getD x 0 = a.getD x 0 := by
  simp [List.getD_eq_getElem?_getD, List.getElem?_take, h]
theorem getD_drop' {a : Bs} {n x : Nat} : (a.drop n).getD x 0 = a.getD (n + x) 0 := by
  simp [List.getD_eq_getElem?_getD, List.getElem?_drop]
theorem getD_over {a : Bs} {x : Nat} (h : a.length ≤ x) : a.getD x 0 = 0 := by
  simp [List.getD_eq_getElem?_getD, List.getElem?_eq_none h]
def szL (l : List Bs) : Nat := (l.map fun b => 14 + b.length).sum
theorem mix_parse {e : Nat} (he1 : 1 ≤ e) (he : e < 4294967296) : ∀ (l : List Bs) (i : Nat) (s : Bs) (u : Nat), Mix s (recsB e i l) u → (∀ b ∈ l, b.length < 65536) → i + l.length < 4294967296 → clashB e i s l = false →
    ∃ k, k ≤ l.length ∧ parseR e i s = l.take k ∧ ∀ j, j ≤ l.length → szL (l.take j) ≤ u → j ≤ k
  | [], i, s, u, hm, _, _, _ => by
    have hz : s = List.replicate s.length 0 := by
      refine getD_ext (by simp) fun x hx => ?_
      have h0 : (recsB e i []).getD x 0 = 0 := rfl
      have h1 : (List.replicate s.length (0 : UInt8)).getD x 0 = 0 := by simp [List.getD_eq_getElem?_getD, List.getElem?_replicate, hx]
      rw [h1]
      rcases hm.at_ x with h | ⟨_, h⟩
      · rw [h, h0]
      · exact h
    refine ⟨0, Nat.le_refl _, ?_, fun j hj _ => hj⟩
    rw [hz]
    exact parseR_stop (stops_zeros he1)
  | b :: l, i, s, u, hm, hb, hi, hc => by
    simp only [List.length_cons] at hi
    have hbl := hb b List.mem_cons_self
    have hrl := recB_length e i b
    have hBl : (recsB e i (b :: l)).length = (recB e i b).length + (recsB e (i + 1) l).length := by rw [recsB, List.length_append]
    have hsl : 14 + b.length ≤ s.length := by have := hm.len; omega
    rw [clashB, if_neg (by omega)] at hc
    by_cases ht : s.take (14 + b.length) = recB e i b
    · rw [if_pos ht] at hc
      have hs : s = recB e i b ++ s.drop (14 + b.length) := by rw [← ht, List.take_append_drop]
      have hn : nextB s = some (e, i, b) := by rw [hs]; exact nextB_rec _ _ _ _ hbl he (by omega)
      have hm' : Mix (s.drop (14 + b.length)) (recsB e (i + 1) l) (u - (14 + b.length)) := by
        refine ⟨by have := hm.len; rw [List.length_drop]; omega, fun x => ?_⟩
        have := hm.at_ (14 + b.length + x)
        rw [getD_drop']
        rw [recsB] at this
        have e1 : (recB e i b ++ recsB e (i + 1) l).getD (14 + b.length + x) 0 = (recsB e (i + 1) l).getD x 0 := by rw [← hrl]; exact getD_app_r x
        rw [e1] at this
        rcases this with h | ⟨h1, h2⟩
        · exact .inl h
        · exact .inr ⟨by omega, h2⟩
      obtain ⟨k, hk, hp, hu⟩ := mix_parse he1 he l (i + 1) _ _ hm' (fun x hx => hb x (List.mem_cons_of_mem _ hx)) (by omega) hc
      refine ⟨k + 1, by simp only [List.length_cons]; omega, by rw [parseR_step hn, hp]; rfl, fun j hj hju => ?_⟩
      cases j with
      | zero => omega
      | succ j =>
        simp only [List.length_cons] at hj
        have e1 : szL ((b :: l).take (j + 1)) = 14 + b.length + szL (l.take j) := by simp [szL]
        have := hu j (by omega) (by omega)
        omega
    · rw [if_neg ht] at hc
      have htn : torn (recB e i b) s := fun k hk => by
        rcases hm.at_ k with h | ⟨_, h⟩
        · left; rw [h, recsB]; exact getD_app_l hk
        · exact .inr h
      rw [if_pos htn] at hc
      have hst : Stops e i s := fun c hc' => by
        rw [stands_next hc'] at hc
        simp at hc
      refine ⟨0, Nat.zero_le _, by rw [parseR_stop hst]; rfl, fun j hj hju => ?_⟩
      cases j with
      | zero => omega
      | succ j =>
        exfalso
        have e1 : szL ((b :: l).take (j + 1)) = 14 + b.length + szL (l.take j) := by simp [szL]
        refine ht (getD_ext (by rw [List.length_take, hrl]; omega) fun x hx => ?_)
        rw [List.length_take] at hx
        rw [getD_take' (by omega)]
        rcases hm.at_ x with h | ⟨h, _⟩
        · rw [h, recsB]; exact getD_app_l (by omega)
        · omega
/-- Of another epoch nothing is read. -/
theorem mix_alien {s : Bs} {u : Nat} {l : List Bs} (hm : Mix s (recsB 2 1 l) u) (hb : ∀ b ∈ l, b.length < 65536) : parseR 3 1 s = [] := by
  refine parseR_stop fun c hc => ?_
  unfold nextB at hc
  split at hc
  · cases hc
  · rename_i h14
    split at hc
    · cases hc
    · split at hc
      · injection hc with hc; injection hc with h1 _
        have key : ∀ x, x < 4 → s.getD (2 + x) 0 = [2, 0, 0, 0].getD x 0 ∨ s.getD (2 + x) 0 = (0 : UInt8) := fun x hx => by
          cases l with
          | nil =>
            rcases hm.at_ (2 + x) with h | ⟨_, h⟩
            · exact .inr h
            · exact .inr h
          | cons b l =>
            rcases hm.at_ (2 + x) with h | ⟨_, h⟩
            · left
              rw [h]
              have e0 : recsB 2 1 (b :: l) = le 2 b.length ++ ([2, 0, 0, 0] ++ (le 4 1 ++ le 4 (sumB (headB 2 1 b.length ++ b)) ++ b ++ recsB 2 2 l)) := by
                have e4 : le 4 2 = [2, 0, 0, 0] := by decide
                rw [recsB, recB, ← e4]
                simp [headB]
              rw [e0]
              have e1 : ∀ y : Bs, (le 2 b.length ++ y).getD (2 + x) 0 = y.getD x 0 := fun y => by
                have := getD_app_r (a := le 2 b.length) (b := y) x
                rwa [le_length] at this
              rw [e1]
              exact getD_app_l hx
            · exact .inr h
        have hs4 : ((s.drop 2).take 4) = [s.getD 2 0, s.getD 3 0, s.getD 4 0, s.getD 5 0] := by
          refine getD_ext (by simp; omega) fun x hx => ?_
          have hx : x < 4 := by rw [List.length_take] at hx; omega
          rw [getD_take' hx, getD_drop']
          match x, hx with
          | 0, _ => rfl
          | 1, _ => rfl
          | 2, _ => rfl
          | 3, _ => rfl
        rw [hs4] at h1
        have k0 := key 0 (by decide)
        have k1 := key 1 (by decide)
        have k2 := key 2 (by decide)
        have k3 := key 3 (by decide)
        have k1 : s.getD 3 0 = 0 := by rcases k1 with h | h <;> exact h
        have k2 : s.getD 4 0 = 0 := by rcases k2 with h | h <;> exact h
        have k3 : s.getD 5 0 = 0 := by rcases k3 with h | h <;> exact h
        rw [k1, k2, k3] at h1
        rcases k0 with h | h
        · have h : s.getD 2 0 = 2 := h
          rw [h] at h1
          exact absurd h1 (by decide)
        · have h : s.getD 2 0 = 0 := h
          rw [h] at h1
          exact absurd h1 (by decide)
      · cases hc
end Go.Jn
namespace Go.Proofs.YtoigogonccjagaaDoor
open Go Go.Sl Go.Jn
attribute [local irreducible] LooksAt sumB sumF
/-- Writes of sectors, each once, and a loss. -/
theorem lost_wrs {D : Dev} {f : Nat → Bs} {k : Nat} {kept : List Bool} {tn a : Int} (hO : D.O = []) : ∀ (m M : Nat), m ≤ M → k + M ≤ D.S.length → ∀ j, (lost D.S (D.wrs f k M).O kept tn a m).getD j [] = if k ≤ j ∧ j < k + m then (f (j - k)).take (lostN kept tn a (j - k)) ++ (D.S.getD j []).drop (lostN kept tn a (j - k)) else D.S.getD j []
  | 0, _, _, _, j => by rw [if_neg (by omega)]; rfl
  | m + 1, M, hm, hM, j => by
    have ih := lost_wrs (f := f) (kept := kept) (tn := tn) (a := a) hO m M (by omega) hM
    have hx : (D.wrs f k M).O.getD m (0, []) = (k + m, f m) := by
      clear ih
      induction M with
      | zero => omega
      | succ M ihM =>
        show ((D.wrs f k M).O ++ [(k + M, f M)]).getD m (0, []) = _
        have hl : (D.wrs f k M).O.length = M := by rw [Dev.wrs_O, hO]; simp
        rcases Nat.lt_or_ge m M with h | h
        · have := ihM h (by omega)
          rw [List.getD_eq_getElem?_getD, List.getElem?_append_left (by omega), ← List.getD_eq_getElem?_getD]
          exact this
        · obtain rfl : m = M := by omega
          rw [List.getD_eq_getElem?_getD, List.getElem?_append_right (by omega), hl, Nat.sub_self]; rfl
    have hT := lost_length (S := D.S) (O := (D.wrs f k M).O) (kept := kept) (torn := tn) (at' := a) m
    simp only [lost]
    rw [hx]
    dsimp only []
    rw [ih (k + m), if_neg (by omega)]
    by_cases hj : j = k + m
    · subst hj
      rw [if_pos ⟨by omega, by omega⟩, List.getD_eq_getElem?_getD, List.getElem?_set_self (by rw [hT]; omega), show k + m - k = m by omega]; rfl
    · rw [List.getD_eq_getElem?_getD, List.getElem?_set_ne (fun h => hj h.symm), ← List.getD_eq_getElem?_getD, ih j]
      by_cases hc : k ≤ j ∧ j < k + m
      · rw [if_pos hc, if_pos ⟨hc.1, by omega⟩]
      · rw [if_neg hc, if_neg (by omega)]
theorem chunk_at {B : Bs} {k x : Nat} (hx : x < 256) : (chunk B k).getD x 0 = B.getD (256 * k + x) 0 := by
  have hp : (part B k).getD x 0 = B.getD (256 * k + x) 0 := by unfold part; rw [getD_take' hx, getD_drop']
  unfold chunk
  rcases Nat.lt_or_ge x (part B k).length with h | h
  · rw [getD_app_l h, hp]
  · rw [← hp, getD_over h]
    obtain ⟨y, rfl⟩ : ∃ y, x = (part B k).length + y := ⟨x - (part B k).length, by omega⟩
    rw [getD_app_r]
    simp only [many, List.getD_eq_getElem?_getD, List.getElem?_replicate]
    split <;> rfl
theorem flat_at {f : Nat → Bs} (hf : ∀ k, (f k).length = 256) : ∀ (n k x : Nat), k < n → x < 256 → ((List.range n).flatMap f).getD (256 * k + x) 0 = (f k).getD x 0 := by
  intro n
  induction n with
  | zero => intro k x h; omega
  | succ n ih =>
    intro k x hk hx
    have hl : ∀ n, ((List.range n).flatMap f).length = 256 * n := by
      intro n
      induction n with
      | zero => rfl
      | succ n ih => rw [List.range_succ, List.flatMap_append, List.length_append, ih]; simp [hf]; omega
    rw [List.range_succ, List.flatMap_append, List.flatMap_cons, List.flatMap_nil, List.append_nil]
    rcases Nat.lt_or_ge k n with h | h
    · rw [getD_app_l (by rw [hl]; omega)]; exact ih k x h hx
    · obtain rfl : k = n := by omega
      rw [show 256 * k + x = ((List.range k).flatMap f).length + x by rw [hl]]
      exact getD_app_r x
/-- What a loss leaves of the sectors of a group. -/
theorem lose_mix {D : Dev} {B : Bs} {u m : Nat} {kept : List Bool} {tn a : Int} (hD : D.ok) (hlen : D.S.length = 8) (hO : D.O = []) (hl : lies D (B.take u)) (hu : u ≤ B.length) (hB : B.length ≤ 1536) (hm : m ≤ nWr B u) :
    Mix (((D.wrs (fun n => chunk B (u / 256 + n)) (1 + u / 256) m).lose kept tn a).run 1 6) B u ∧ (((D.wrs (fun n => chunk B (u / 256 + n)) (1 + u / 256) m).lose kept tn a).run 1 6).length = 1536 := by
  have hn : nWr B u = (B.length + 255) / 256 - u / 256 := rfl
  have hwok := Dev.wrs_ok hD (f := fun n => chunk B (u / 256 + n)) (k := 1 + u / 256) (fun _ => by simp) m (by omega)
  have hlok := Dev.lose_ok hwok kept tn a
  have hWl : (D.wrs (fun n => chunk B (u / 256 + n)) (1 + u / 256) m).S.length = 8 := by rw [Dev.wrs_S]; exact hlen
  have hLl : ((D.wrs (fun n => chunk B (u / 256 + n)) (1 + u / 256) m).lose kept tn a).S.length = 8 := by
    simp only [Dev.lose, lost_length]; exact hWl
  have hrl := Dev.run_length hlok (fr := 1) 6 (by rw [hLl]; decide)
  refine ⟨⟨by omega, fun x => ?_⟩, hrl⟩
  rcases Nat.lt_or_ge x 1536 with hx | hx
  · have hWO : (D.wrs (fun n => chunk B (u / 256 + n)) (1 + u / 256) m).O.length = m := by rw [Dev.wrs_O, hO]; simp
    obtain ⟨k, y, rfl, hk, hy⟩ : ∃ k y, x = 256 * k + y ∧ k < 6 ∧ y < 256 := ⟨x / 256, x % 256, by omega, by omega, by omega⟩
    have hg : ∀ k, k < 6 → ((D.wrs (fun n => chunk B (u / 256 + n)) (1 + u / 256) m).lose kept tn a).get (1 + k) = if 1 + u / 256 ≤ 1 + k ∧ 1 + k < 1 + u / 256 + m then (chunk B k).take (lostN kept tn a (k - u / 256)) ++ (chunk (B.take u) k).drop (lostN kept tn a (k - u / 256)) else chunk (B.take u) k := fun k hk => by
      show (laid (lost _ _ kept tn a _) []).getD (1 + k) [] = _
      show (lost (D.wrs (fun n => chunk B (u / 256 + n)) (1 + u / 256) m).S (D.wrs (fun n => chunk B (u / 256 + n)) (1 + u / 256) m).O kept tn a (D.wrs (fun n => chunk B (u / 256 + n)) (1 + u / 256) m).O.length).getD (1 + k) [] = _
      rw [hWO, Dev.wrs_S, lost_wrs hO m m (Nat.le_refl _) (by omega) (1 + k), hl k hk]
      by_cases hc : 1 + u / 256 ≤ 1 + k ∧ 1 + k < 1 + u / 256 + m
      · rw [if_pos hc, if_pos hc, show 1 + k - (1 + u / 256) = k - u / 256 by omega, show u / 256 + (k - u / 256) = k by omega]
      · rw [if_neg hc, if_neg hc]
    have hold : ∀ y, (B.take u).getD y 0 = B.getD y 0 ∨ (u ≤ y ∧ (B.take u).getD y 0 = 0) := fun y => by
      rcases Nat.lt_or_ge y u with h | h
      · exact .inl (getD_take' h)
      · exact .inr ⟨h, getD_over (by rw [List.length_take]; omega)⟩
    have hr : (((D.wrs (fun n => chunk B (u / 256 + n)) (1 + u / 256) m).lose kept tn a).run 1 6).getD (256 * k + y) 0 = (((D.wrs (fun n => chunk B (u / 256 + n)) (1 + u / 256) m).lose kept tn a).get (1 + k)).getD y 0 := by
      have hcong : ((D.wrs (fun n => chunk B (u / 256 + n)) (1 + u / 256) m).lose kept tn a).run 1 6 = (List.range 6).flatMap (fun i => if i < 6 then ((D.wrs (fun n => chunk B (u / 256 + n)) (1 + u / 256) m).lose kept tn a).get (1 + i) else many 256 0) :=
        flat_congr fun i hi => by rw [if_pos (List.mem_range.1 hi)]
      rw [hcong, flat_at (fun i => ?_) 6 k y hk hy, if_pos hk]
      by_cases hi : i < 6
      · rw [if_pos hi]; exact get_length hlok (by rw [hLl]; omega)
      · rw [if_neg hi]; simp
    rw [hr, hg k hk]
    have hcn : (chunk B k).getD y 0 = B.getD (256 * k + y) 0 := chunk_at hy
    have hco : (chunk (B.take u) k).getD y 0 = (B.take u).getD (256 * k + y) 0 := chunk_at hy
    by_cases hc : 1 + u / 256 ≤ 1 + k ∧ 1 + k < 1 + u / 256 + m
    · rw [if_pos hc]
      obtain ⟨c, hcd⟩ : ∃ c, lostN kept tn a (k - u / 256) = c := ⟨_, rfl⟩
      have hc256 := lostN_le kept tn a (k - u / 256)
      rw [hcd] at hc256 ⊢
      have htl : ((chunk B k).take c).length = c := by rw [List.length_take, chunk_length]; omega
      rcases Nat.lt_or_ge y c with h | h
      · left
        rw [getD_app_l (by omega), getD_take' h, hcn]
      · obtain ⟨z, rfl⟩ : ∃ z, y = c + z := ⟨y - c, by omega⟩
        have e1 : ((chunk B k).take c ++ (chunk (B.take u) k).drop c).getD (c + z) 0 = ((chunk (B.take u) k).drop c).getD z 0 := by
          have := getD_app_r (a := (chunk B k).take c) (b := (chunk (B.take u) k).drop c) z
          rwa [htl] at this
        rw [e1, getD_drop', hco]
        exact hold _
    · rw [if_neg hc, hco]
      exact hold _
  · rw [getD_over (by omega), getD_over (by omega)]; exact .inl rfl
end Go.Proofs.YtoigogonccjagaaDoor
