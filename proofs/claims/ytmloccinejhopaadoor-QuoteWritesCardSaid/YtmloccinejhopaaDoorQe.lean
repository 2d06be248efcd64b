/- Texts in quotes: the document's characters. -/
import Derived.Test.YtmloccinejhopaaDoorQd
set_option linter.unusedVariables false
set_option linter.unusedSimpArgs false
namespace Go.Proofs.YtmloccinejhopaaDoor
open Go Go.Sl Go.Qt Go.Lib
attribute [local irreducible] LooksAt

theorem rd_blk {F : List Assn} {b : Nat} (l : Bs) (t : Nat) : RdS (blk b (bytesV l) t :: F) 1 (.slice (some ⟨b, 0, none⟩) l.length l.length) l.length (bytesV l) :=
  ⟨_, _, rfl, Nat.le_refl _, by simp, fun _ => ⟨b, 0, rfl, Rd.of_at⟩⟩
theorem char_spec {F : List Assn} {w : World} (n : Int) (hs : Sat F w) :
    Ret Tryd.prog 23 [int n] w fun v w' => v = str (charL n) ∧ Sat F w' := by
  by_cases hc : isChar n
  · rw [charL, if_pos hc]
    have hc' := hc
    obtain ⟨h0, h1, h2⟩ := hc
    refine Ret.enter [(true, int n)] _ Tryd.func23 rfl Tryd.ntmps23 rfl ?_
    repeat (first | (refine MC.run1 tab 1000 rfl rfl (by first | exact True.intro | (simp only [Conds, rng, Int.toNat_natCast, List.length_append, bytesV_length] <;> omega) | (simp [Conds, rng] <;> omega) | (simp only [Conds, rng, wrap_u8, wrap_u16, wrap_u32, wrap_u64] <;> omega)) ?_) | (refine MC.la true (la_load1 hs rfl (by rfl)) rfl ?_) | (refine MC.part rfl rfl (fun h => absurd h (by first | decide | omega)) (fun _ => ?_)) | (refine MC.part rfl rfl (fun _ => ?_) (fun h => absurd (by first | decide | omega) h)) | (refine MC.cond rfl (fun h => absurd h (by first | decide | omega)) (fun _ => ?_)) | (refine MC.cond rfl (fun _ => ?_) (fun h => absurd (by first | decide | omega) h)))
    refine MC.cutAt 1 [(0, true, int n), (16, true, bool false)] (fun w' => w' = w) rfl (fun w' e => ?_) ?_
    · subst e
      (try dsimp only [List.drop_succ_cons, List.drop_zero, List.take_succ_cons, List.take_zero, List.cons_append, List.nil_append])
      rcases enc_cases hc' with ⟨a, e⟩ | ⟨a, b, e⟩ | ⟨a, b, e⟩ | ⟨a, e⟩
      · repeat (first | (refine MC.run1 tab 1000 rfl rfl (by first | exact True.intro | (simp only [Conds, rng, Int.toNat_natCast, List.length_append, bytesV_length] <;> omega) | (simp [Conds, rng] <;> omega) | (simp only [Conds, rng, wrap_u8, wrap_u16, wrap_u32, wrap_u64] <;> omega)) ?_) | (refine MC.la true (la_load1 hs rfl (by rfl)) rfl ?_) | (refine MC.part rfl rfl (fun h => absurd h (by first | decide | omega)) (fun _ => ?_)) | (refine MC.part rfl rfl (fun _ => ?_) (fun h => absurd (by first | decide | omega) h)) | (refine MC.cond rfl (fun h => absurd h (by first | decide | omega)) (fun _ => ?_)) | (refine MC.cond rfl (fun _ => ?_) (fun h => absurd (by first | decide | omega) h)))
        have e1 : IntKind.u8.wrap n = n := by rw [wrap_u8]; omega
        rw [e1, byteV h0 (by omega)]
        refine MC.does true (does_buildL hs rfl rfl rfl (by first | (intro u hu; simp only [List.mem_cons, List.not_mem_nil, or_false] at hu; rcases hu with rfl | rfl | rfl | rfl | rfl | rfl | rfl | rfl <;> rfl) | (intro u hu; simp only [List.mem_cons, List.not_mem_nil, or_false] at hu; rcases hu with rfl | rfl | rfl | rfl <;> rfl) | (intro u hu; simp only [List.mem_cons, List.not_mem_nil, or_false] at hu; rcases hu with rfl | rfl <;> rfl) | (intro u hu; simp only [List.mem_cons, List.not_mem_nil, or_false] at hu; subst hu; rfl)) rfl) rfl ?_; rintro _ w ⟨b1, rfl, hs⟩
        have hs : Sat (blk b1 (bytesV [n.toNat.toUInt8]) 5 :: F) w := hs
        have hr := rd_blk (b := b1) (F := F) [n.toNat.toUInt8] 5
        refine MC.la true (la_tostr rfl hr hs) rfl ?_
        repeat (first | (refine MC.run1 tab 1000 rfl rfl (by first | exact True.intro | (simp only [Conds, rng, Int.toNat_natCast, List.length_append, bytesV_length] <;> omega) | (simp [Conds, rng] <;> omega) | (simp only [Conds, rng, wrap_u8, wrap_u16, wrap_u32, wrap_u64] <;> omega)) ?_) | (refine MC.la true (la_load1 hs rfl (by rfl)) rfl ?_) | (refine MC.part rfl rfl (fun h => absurd h (by first | decide | omega)) (fun _ => ?_)) | (refine MC.part rfl rfl (fun _ => ?_) (fun h => absurd (by first | decide | omega) h)) | (refine MC.cond rfl (fun h => absurd h (by first | decide | omega)) (fun _ => ?_)) | (refine MC.cond rfl (fun _ => ?_) (fun h => absurd (by first | decide | omega) h)))
        refine MC.ret rfl ?_
        rw [e]
        exact ⟨rfl, hs.tail⟩
      · repeat (first | (refine MC.run1 tab 1000 rfl rfl (by first | exact True.intro | (simp only [Conds, rng, Int.toNat_natCast, List.length_append, bytesV_length] <;> omega) | (simp [Conds, rng] <;> omega) | (simp only [Conds, rng, wrap_u8, wrap_u16, wrap_u32, wrap_u64] <;> omega)) ?_) | (refine MC.la true (la_load1 hs rfl (by rfl)) rfl ?_) | (refine MC.part rfl rfl (fun h => absurd h (by first | decide | omega)) (fun _ => ?_)) | (refine MC.part rfl rfl (fun _ => ?_) (fun h => absurd (by first | decide | omega) h)) | (refine MC.cond rfl (fun h => absurd h (by first | decide | omega)) (fun _ => ?_)) | (refine MC.cond rfl (fun _ => ?_) (fun h => absurd (by first | decide | omega) h)))
        have e1 : IntKind.u8.wrap (192 + n / 64) = 192 + n / 64 := by rw [wrap_u8]; omega
        have e2 : IntKind.u8.wrap (128 + n % 64) = 128 + n % 64 := by rw [wrap_u8]; omega
        rw [e1, e2, byteV (z := 192 + n / 64) (by omega) (by omega), byteV (z := 128 + n % 64) (by omega) (by omega)]
        refine MC.does true (does_buildL hs rfl rfl rfl (by first | (intro u hu; simp only [List.mem_cons, List.not_mem_nil, or_false] at hu; rcases hu with rfl | rfl | rfl | rfl | rfl | rfl | rfl | rfl <;> rfl) | (intro u hu; simp only [List.mem_cons, List.not_mem_nil, or_false] at hu; rcases hu with rfl | rfl | rfl | rfl <;> rfl) | (intro u hu; simp only [List.mem_cons, List.not_mem_nil, or_false] at hu; rcases hu with rfl | rfl <;> rfl) | (intro u hu; simp only [List.mem_cons, List.not_mem_nil, or_false] at hu; subst hu; rfl)) rfl) rfl ?_; rintro _ w ⟨b1, rfl, hs⟩
        have hs : Sat (blk b1 (bytesV [(192 + n / 64).toNat.toUInt8, (128 + n % 64).toNat.toUInt8]) 5 :: F) w := hs
        have hr := rd_blk (b := b1) (F := F) [(192 + n / 64).toNat.toUInt8, (128 + n % 64).toNat.toUInt8] 5
        refine MC.la true (la_tostr rfl hr hs) rfl ?_
        repeat (first | (refine MC.run1 tab 1000 rfl rfl (by first | exact True.intro | (simp only [Conds, rng, Int.toNat_natCast, List.length_append, bytesV_length] <;> omega) | (simp [Conds, rng] <;> omega) | (simp only [Conds, rng, wrap_u8, wrap_u16, wrap_u32, wrap_u64] <;> omega)) ?_) | (refine MC.la true (la_load1 hs rfl (by rfl)) rfl ?_) | (refine MC.part rfl rfl (fun h => absurd h (by first | decide | omega)) (fun _ => ?_)) | (refine MC.part rfl rfl (fun _ => ?_) (fun h => absurd (by first | decide | omega) h)) | (refine MC.cond rfl (fun h => absurd h (by first | decide | omega)) (fun _ => ?_)) | (refine MC.cond rfl (fun _ => ?_) (fun h => absurd (by first | decide | omega) h)))
        refine MC.ret rfl ?_
        rw [e]
        exact ⟨rfl, hs.tail⟩
      · repeat (first | (refine MC.run1 tab 1000 rfl rfl (by first | exact True.intro | (simp only [Conds, rng, Int.toNat_natCast, List.length_append, bytesV_length] <;> omega) | (simp [Conds, rng] <;> omega) | (simp only [Conds, rng, wrap_u8, wrap_u16, wrap_u32, wrap_u64] <;> omega)) ?_) | (refine MC.la true (la_load1 hs rfl (by rfl)) rfl ?_) | (refine MC.part rfl rfl (fun h => absurd h (by first | decide | omega)) (fun _ => ?_)) | (refine MC.part rfl rfl (fun _ => ?_) (fun h => absurd (by first | decide | omega) h)) | (refine MC.cond rfl (fun h => absurd h (by first | decide | omega)) (fun _ => ?_)) | (refine MC.cond rfl (fun _ => ?_) (fun h => absurd (by first | decide | omega) h)))
        have e1 : IntKind.u8.wrap (224 + n / 4096) = 224 + n / 4096 := by rw [wrap_u8]; omega
        have e2 : IntKind.u8.wrap (128 + n / 64 % 64) = 128 + n / 64 % 64 := by rw [wrap_u8]; omega
        have e3 : IntKind.u8.wrap (128 + n % 64) = 128 + n % 64 := by rw [wrap_u8]; omega
        rw [e1, e2, e3, byteV (z := 224 + n / 4096) (by omega) (by omega), byteV (z := 128 + n / 64 % 64) (by omega) (by omega), byteV (z := 128 + n % 64) (by omega) (by omega)]
        refine MC.does true (does_buildL hs rfl rfl rfl (by first | (intro u hu; simp only [List.mem_cons, List.not_mem_nil, or_false] at hu; rcases hu with rfl | rfl | rfl | rfl | rfl | rfl | rfl | rfl <;> rfl) | (intro u hu; simp only [List.mem_cons, List.not_mem_nil, or_false] at hu; rcases hu with rfl | rfl | rfl | rfl <;> rfl) | (intro u hu; simp only [List.mem_cons, List.not_mem_nil, or_false] at hu; rcases hu with rfl | rfl <;> rfl) | (intro u hu; simp only [List.mem_cons, List.not_mem_nil, or_false] at hu; subst hu; rfl)) rfl) rfl ?_; rintro _ w ⟨b1, rfl, hs⟩
        have hs : Sat (blk b1 (bytesV [(224 + n / 4096).toNat.toUInt8, (128 + n / 64 % 64).toNat.toUInt8, (128 + n % 64).toNat.toUInt8]) 5 :: F) w := hs
        have hr := rd_blk (b := b1) (F := F) [(224 + n / 4096).toNat.toUInt8, (128 + n / 64 % 64).toNat.toUInt8, (128 + n % 64).toNat.toUInt8] 5
        refine MC.la true (la_tostr rfl hr hs) rfl ?_
        repeat (first | (refine MC.run1 tab 1000 rfl rfl (by first | exact True.intro | (simp only [Conds, rng, Int.toNat_natCast, List.length_append, bytesV_length] <;> omega) | (simp [Conds, rng] <;> omega) | (simp only [Conds, rng, wrap_u8, wrap_u16, wrap_u32, wrap_u64] <;> omega)) ?_) | (refine MC.la true (la_load1 hs rfl (by rfl)) rfl ?_) | (refine MC.part rfl rfl (fun h => absurd h (by first | decide | omega)) (fun _ => ?_)) | (refine MC.part rfl rfl (fun _ => ?_) (fun h => absurd (by first | decide | omega) h)) | (refine MC.cond rfl (fun h => absurd h (by first | decide | omega)) (fun _ => ?_)) | (refine MC.cond rfl (fun _ => ?_) (fun h => absurd (by first | decide | omega) h)))
        refine MC.ret rfl ?_
        rw [e]
        exact ⟨rfl, hs.tail⟩
      · repeat (first | (refine MC.run1 tab 1000 rfl rfl (by first | exact True.intro | (simp only [Conds, rng, Int.toNat_natCast, List.length_append, bytesV_length] <;> omega) | (simp [Conds, rng] <;> omega) | (simp only [Conds, rng, wrap_u8, wrap_u16, wrap_u32, wrap_u64] <;> omega)) ?_) | (refine MC.la true (la_load1 hs rfl (by rfl)) rfl ?_) | (refine MC.part rfl rfl (fun h => absurd h (by first | decide | omega)) (fun _ => ?_)) | (refine MC.part rfl rfl (fun _ => ?_) (fun h => absurd (by first | decide | omega) h)) | (refine MC.cond rfl (fun h => absurd h (by first | decide | omega)) (fun _ => ?_)) | (refine MC.cond rfl (fun _ => ?_) (fun h => absurd (by first | decide | omega) h)))
        have e1 : IntKind.u8.wrap (240 + n / 262144) = 240 + n / 262144 := by rw [wrap_u8]; omega
        have e2 : IntKind.u8.wrap (128 + n / 4096 % 64) = 128 + n / 4096 % 64 := by rw [wrap_u8]; omega
        have e3 : IntKind.u8.wrap (128 + n / 64 % 64) = 128 + n / 64 % 64 := by rw [wrap_u8]; omega
        have e4 : IntKind.u8.wrap (128 + n % 64) = 128 + n % 64 := by rw [wrap_u8]; omega
        rw [e1, e2, e3, e4, byteV (z := 240 + n / 262144) (by omega) (by omega), byteV (z := 128 + n / 4096 % 64) (by omega) (by omega), byteV (z := 128 + n / 64 % 64) (by omega) (by omega), byteV (z := 128 + n % 64) (by omega) (by omega)]
        refine MC.does true (does_buildL hs rfl rfl rfl (by first | (intro u hu; simp only [List.mem_cons, List.not_mem_nil, or_false] at hu; rcases hu with rfl | rfl | rfl | rfl | rfl | rfl | rfl | rfl <;> rfl) | (intro u hu; simp only [List.mem_cons, List.not_mem_nil, or_false] at hu; rcases hu with rfl | rfl | rfl | rfl <;> rfl) | (intro u hu; simp only [List.mem_cons, List.not_mem_nil, or_false] at hu; rcases hu with rfl | rfl <;> rfl) | (intro u hu; simp only [List.mem_cons, List.not_mem_nil, or_false] at hu; subst hu; rfl)) rfl) rfl ?_; rintro _ w ⟨b1, rfl, hs⟩
        have hs : Sat (blk b1 (bytesV [(240 + n / 262144).toNat.toUInt8, (128 + n / 4096 % 64).toNat.toUInt8, (128 + n / 64 % 64).toNat.toUInt8, (128 + n % 64).toNat.toUInt8]) 5 :: F) w := hs
        have hr := rd_blk (b := b1) (F := F) [(240 + n / 262144).toNat.toUInt8, (128 + n / 4096 % 64).toNat.toUInt8, (128 + n / 64 % 64).toNat.toUInt8, (128 + n % 64).toNat.toUInt8] 5
        refine MC.la true (la_tostr rfl hr hs) rfl ?_
        repeat (first | (refine MC.run1 tab 1000 rfl rfl (by first | exact True.intro | (simp only [Conds, rng, Int.toNat_natCast, List.length_append, bytesV_length] <;> omega) | (simp [Conds, rng] <;> omega) | (simp only [Conds, rng, wrap_u8, wrap_u16, wrap_u32, wrap_u64] <;> omega)) ?_) | (refine MC.la true (la_load1 hs rfl (by rfl)) rfl ?_) | (refine MC.part rfl rfl (fun h => absurd h (by first | decide | omega)) (fun _ => ?_)) | (refine MC.part rfl rfl (fun _ => ?_) (fun h => absurd (by first | decide | omega) h)) | (refine MC.cond rfl (fun h => absurd h (by first | decide | omega)) (fun _ => ?_)) | (refine MC.cond rfl (fun _ => ?_) (fun h => absurd (by first | decide | omega) h)))
        refine MC.ret rfl ?_
        rw [e]
        exact ⟨rfl, hs.tail⟩
    · (try dsimp only [List.drop_succ_cons, List.drop_zero, List.take_succ_cons, List.take_zero, List.cons_append, List.nil_append])
      refine MC.part rfl rfl (fun h3 => ?_) (fun h3 => ?_)
      · refine MC.run1 tab 1000 rfl rfl (by first | exact True.intro | (simp only [Conds, rng, Int.toNat_natCast, List.length_append, bytesV_length] <;> omega) | (simp [Conds, rng] <;> omega) | (simp only [Conds, rng, wrap_u8, wrap_u16, wrap_u32, wrap_u64] <;> omega)) ?_
        refine MC.meet ⟨rfl, congrArg (fun b => some (bool b)) (decide_eq_false (by omega)), trivial⟩ rfl
      · repeat (first | (refine MC.run1 tab 1000 rfl rfl (by first | exact True.intro | (simp only [Conds, rng, Int.toNat_natCast, List.length_append, bytesV_length] <;> omega) | (simp [Conds, rng] <;> omega) | (simp only [Conds, rng, wrap_u8, wrap_u16, wrap_u32, wrap_u64] <;> omega)) ?_) | (refine MC.la true (la_load1 hs rfl (by rfl)) rfl ?_) | (refine MC.part rfl rfl (fun h => absurd h (by first | decide | omega)) (fun _ => ?_)) | (refine MC.part rfl rfl (fun _ => ?_) (fun h => absurd (by first | decide | omega) h)) | (refine MC.cond rfl (fun h => absurd h (by first | decide | omega)) (fun _ => ?_)) | (refine MC.cond rfl (fun _ => ?_) (fun h => absurd (by first | decide | omega) h)))
        exact MC.meet (by repeat (first | exact trivial | refine ⟨rfl, ?_⟩)) rfl
  · rw [charL, if_neg hc]
    have hc2 : n < 0 ∨ 1114111 < n ∨ (55296 ≤ n ∧ n ≤ 57343) := by unfold isChar at hc; omega
    refine Ret.enter [(true, int n)] _ Tryd.func23 rfl Tryd.ntmps23 rfl ?_
    rcases hc2 with h | h | ⟨h, h'⟩
    · repeat (first | (refine MC.run1 tab 1000 rfl rfl (by first | exact True.intro | (simp only [Conds, rng, Int.toNat_natCast, List.length_append, bytesV_length] <;> omega) | (simp [Conds, rng] <;> omega) | (simp only [Conds, rng, wrap_u8, wrap_u16, wrap_u32, wrap_u64] <;> omega)) ?_) | (refine MC.la true (la_load1 hs rfl (by rfl)) rfl ?_) | (refine MC.part rfl rfl (fun h => absurd h (by first | decide | omega)) (fun _ => ?_)) | (refine MC.part rfl rfl (fun _ => ?_) (fun h => absurd (by first | decide | omega) h)) | (refine MC.cond rfl (fun h => absurd h (by first | decide | omega)) (fun _ => ?_)) | (refine MC.cond rfl (fun _ => ?_) (fun h => absurd (by first | decide | omega) h)))
      refine MC.ret rfl ?_
      exact ⟨rfl, hs⟩
    · repeat (first | (refine MC.run1 tab 1000 rfl rfl (by first | exact True.intro | (simp only [Conds, rng, Int.toNat_natCast, List.length_append, bytesV_length] <;> omega) | (simp [Conds, rng] <;> omega) | (simp only [Conds, rng, wrap_u8, wrap_u16, wrap_u32, wrap_u64] <;> omega)) ?_) | (refine MC.la true (la_load1 hs rfl (by rfl)) rfl ?_) | (refine MC.part rfl rfl (fun h => absurd h (by first | decide | omega)) (fun _ => ?_)) | (refine MC.part rfl rfl (fun _ => ?_) (fun h => absurd (by first | decide | omega) h)) | (refine MC.cond rfl (fun h => absurd h (by first | decide | omega)) (fun _ => ?_)) | (refine MC.cond rfl (fun _ => ?_) (fun h => absurd (by first | decide | omega) h)))
      refine MC.ret rfl ?_
      exact ⟨rfl, hs⟩
    · repeat (first | (refine MC.run1 tab 1000 rfl rfl (by first | exact True.intro | (simp only [Conds, rng, Int.toNat_natCast, List.length_append, bytesV_length] <;> omega) | (simp [Conds, rng] <;> omega) | (simp only [Conds, rng, wrap_u8, wrap_u16, wrap_u32, wrap_u64] <;> omega)) ?_) | (refine MC.la true (la_load1 hs rfl (by rfl)) rfl ?_) | (refine MC.part rfl rfl (fun h => absurd h (by first | decide | omega)) (fun _ => ?_)) | (refine MC.part rfl rfl (fun _ => ?_) (fun h => absurd (by first | decide | omega) h)) | (refine MC.cond rfl (fun h => absurd h (by first | decide | omega)) (fun _ => ?_)) | (refine MC.cond rfl (fun _ => ?_) (fun h => absurd (by first | decide | omega) h)))
      refine MC.ret rfl ?_
      exact ⟨rfl, hs⟩
/-! #### The character that bytes begin with -/
def headN : Nat → Int
  | 2 => 192
  | 3 => 224
  | 4 => 240
  | _ => 0
def cI (l : Bs) (n : Nat) : Nat → Int
  | 0 => ((l.getD 0 0).toNat : Int) - headN n
  | j + 1 => cI l n j * 64 + ((l.getD (j + 1) 0).toNat : Int) - 128
def cN (l : Bs) (n : Nat) : Int := cI l n (n - 1)
theorem headN_bd (n : Nat) : 0 ≤ headN n ∧ headN n ≤ 240 := by
  unfold headN; split <;> omega
theorem cI_bd (l : Bs) (n : Nat) : ∀ j, j ≤ 3 → -70000000 ≤ cI l n j ∧ cI l n j ≤ 70000000 := by
  have b0 := UInt8.toNat_lt (l.getD 0 0)
  have b1 := UInt8.toNat_lt (l.getD 1 0)
  have b2 := UInt8.toNat_lt (l.getD 2 0)
  have b3 := UInt8.toNat_lt (l.getD 3 0)
  have hh := headN_bd n
  intro j hj
  obtain rfl | rfl | rfl | rfl : j = 0 ∨ j = 1 ∨ j = 2 ∨ j = 3 := by omega
  · simp only [cI]; omega
  · simp only [cI, Nat.zero_add]; omega
  · simp only [cI, Nat.zero_add, Nat.reduceAdd]; omega
  · simp only [cI, Nat.zero_add, Nat.reduceAdd]; omega
theorem take_getD {l m : Bs} {w : Nat} (h : m = l.take w) (i : Nat) (hi : i < w) : l.getD i 0 = m.getD i 0 := by
  subst h
  simp [List.getD_eq_getElem?_getD, List.getElem?_take, hi]
theorem cN_ok {l : Bs} (h : okD l) : cN l (decodeL l).2 = ((decodeL l).1 : Int) ∧ (decodeL l).2 ≤ 4 := by
  obtain ⟨h1, h2, h3, h4⟩ := okD_char h
  generalize ((decodeL l).1 : Int) = c at h1 h2
  generalize (decodeL l).2 = w at h2 h3 h4
  have hlen : (encodeRune c).length = w := by rw [h2, List.length_take]; omega
  have h1' := h1
  obtain ⟨k0, k1, k2⟩ := h1
  have bb : ∀ z : Int, 0 ≤ z → z ≤ 255 → ((z.toNat.toUInt8).toNat : Int) = z := bt
  rcases enc_cases h1' with ⟨a, e⟩ | ⟨a, b, e⟩ | ⟨a, b, e⟩ | ⟨a, e⟩
  · have hw : w = 1 := by rw [← hlen, e]; rfl
    subst hw
    have g0 := take_getD h2 0 (by decide)
    rw [e] at g0
    simp only [List.getD_cons_zero] at g0
    refine ⟨?_, by decide⟩
    simp only [cN, cI, headN, g0, Nat.sub_self]
    rw [bb c k0 (by omega)]; omega
  · have hw : w = 2 := by rw [← hlen, e]; rfl
    subst hw
    have g0 := take_getD h2 0 (by decide)
    have g1 := take_getD h2 1 (by decide)
    rw [e] at g0 g1
    simp only [List.getD_cons_zero, List.getD_cons_succ] at g0 g1
    refine ⟨?_, by decide⟩
    simp only [cN, cI, headN, g0, g1]
    rw [bb _ (by omega) (by omega), bb _ (by omega) (by omega)]; omega
  · have hw : w = 3 := by rw [← hlen, e]; rfl
    subst hw
    have g0 := take_getD h2 0 (by decide)
    have g1 := take_getD h2 1 (by decide)
    have g2 := take_getD h2 2 (by decide)
    rw [e] at g0 g1 g2
    simp only [List.getD_cons_zero, List.getD_cons_succ] at g0 g1 g2
    refine ⟨?_, by decide⟩
    simp only [cN, cI, headN, g0, g1, g2]
    rw [bb _ (by omega) (by omega), bb _ (by omega) (by omega), bb _ (by omega) (by omega)]; omega
  · have hw : w = 4 := by rw [← hlen, e]; rfl
    subst hw
    have g0 := take_getD h2 0 (by decide)
    have g1 := take_getD h2 1 (by decide)
    have g2 := take_getD h2 2 (by decide)
    have g3 := take_getD h2 3 (by decide)
    rw [e] at g0 g1 g2 g3
    simp only [List.getD_cons_zero, List.getD_cons_succ] at g0 g1 g2 g3
    refine ⟨?_, by decide⟩
    simp only [cN, cI, headN, g0, g1, g2, g3]
    rw [bb _ (by omega) (by omega), bb _ (by omega) (by omega), bb _ (by omega) (by omega), bb _ (by omega) (by omega)]; omega
theorem cN_only {l : Bs} {n : Nat} (h0 : 1 ≤ n) (hn : n ≤ l.length) (h : charL (cN l n) = l.take n) : okD l ∧ (decodeL l).2 = n := by
  by_cases hc : isChar (cN l n)
  · rw [charL, if_pos hc] at h
    have e : l = encodeRune (cN l n) ++ l.drop n := by rw [h, List.take_append_drop]
    have hl : (encodeRune (cN l n)).length = n := by rw [h, List.length_take]; omega
    have h1 := okD_encode hc (l.drop n)
    have h2 := decode_encode hc (l.drop n)
    rw [← e] at h1 h2
    exact ⟨h1, by rw [h2]; exact hl⟩
  · rw [charL, if_neg hc] at h
    have := congrArg List.length h
    rw [List.length_take] at this
    simp at this; omega
theorem cN_first {l : Bs} (h : okD l) : charL (cN l (decodeL l).2) = l.take (decodeL l).2 := by
  obtain ⟨h1, h2, h3, h4⟩ := okD_char h
  rw [(cN_ok h).1, charL, if_pos h1, h2]
theorem splice_all {vs cs : List Value} (h : vs.length = cs.length) : splice cs 0 vs = vs := by
  rw [splice_eq _ _ _ (by omega), List.take_zero, List.nil_append, List.drop_of_length_le (by omega), List.append_nil]
section
variable {P : Program} {t e : TypeId} {d : Option Nat} {ty : TypeId} {pos : String} {aft : Array Edge} {g : Option (Nat × Bool)} {fr : Fr}
theorem po_arr {agg agg' : Bool} {size bytes size' bytes' : Nat} {zero zero' : List Value} {N : Nat} [hT : TyU P t (.array N e)] [hI : TyI P t agg size bytes zero] [hE : TyI P e agg' size' bytes' zero'] {ps : Array (Nat × Operand)} {vs : List (Nat × Value)} {ls : List (Nat × List Value)} {out : List Value} (hv : evps fr ps.toList = some vs)
    (hc : vs.map (fun p => (p.1, p.2.cells)) = ls.map (fun p => (p.1, p.2.toArray))) (ho : layOk (fun i => some (i * size', size')) zero.length ls) (h : lay (fun i => some (i * size', size')) zero ls = some out) : Pure P ⟨d, .build t ps, ty, pos, aft, g⟩ fr (.agg out.toArray) := fun n ds a hf w => by
  have e1 : (ps.map fun (i, x) => (i, a.eval x)).toList = vs := by simpa using evps_map hf hv
  have hfill := fill_lay (fun i => some (i * size', size')) vs ls zero out hc ho h
  simp only [execOp, Instr.build, Sem.run_bind, TyI.run_zero (P := P) (t := t) w, Result.andThen_ok, TyI.zero_cells P t, TyU.run (P := P) (t := t) w, TyI.run_size (P := P) (t := e) w, e1, hfill]
  rfl
end
theorem first_spec {F : List Assn} {w : World} (s : Bs) (hs : Sat F w) (hl : s.length ≤ 140737488355328) :
    Ret Tryd.prog 17 [str s] w fun v w' => v = .tuple #[int (firstL s).1, int ((firstL s).2 : Int)] ∧ Sat F w' := by
  refine Ret.enter [(true, str s)] _ Tryd.func17 rfl Tryd.ntmps17 rfl ?_
  repeat (first | (refine MC.run1 tab 1000 rfl rfl (by first | exact True.intro | (simp only [Conds, rng, Int.toNat_natCast, List.length_append, bytesV_length] <;> omega) | (simp [Conds, rng] <;> omega) | (simp only [Conds, rng, wrap_u8, wrap_u16, wrap_u32, wrap_u64] <;> omega)) ?_) | (refine MC.la true (la_load1 hs rfl (by rfl)) rfl ?_) | (refine MC.part rfl rfl (fun h => absurd h (by first | decide | omega)) (fun _ => ?_)) | (refine MC.part rfl rfl (fun _ => ?_) (fun h => absurd (by first | decide | omega) h)) | (refine MC.cond rfl (fun h => absurd h (by first | decide | omega)) (fun _ => ?_)) | (refine MC.cond rfl (fun _ => ?_) (fun h => absurd (by first | decide | omega) h)))
  refine MC.pure (f := true) (po_arr (ls := [(0, [int 0]), (1, [int 0]), (2, [int 192]), (3, [int 224]), (4, [int 240])]) (out := [int 0, int 0, int 192, int 224, int 240]) rfl rfl ⟨⟨_, rfl, by simp⟩, ⟨_, rfl, by simp⟩, ⟨_, rfl, by simp⟩, ⟨_, rfl, by simp⟩, ⟨_, rfl, by simp⟩, trivial⟩ rfl) rfl ?_
  refine MC.does true (does_alloc hs) rfl ?_; rintro _ w ⟨bh, rfl, hs⟩
  refine MC.does true (does_store (vs := [int 0, int 0, int 192, int 224, int 240]) hs rfl rfl rfl rfl (by first | (intro u hu; simp only [List.mem_cons, List.not_mem_nil, or_false] at hu; rcases hu with rfl | rfl | rfl | rfl | rfl | rfl | rfl | rfl <;> rfl) | (intro u hu; simp only [List.mem_cons, List.not_mem_nil, or_false] at hu; rcases hu with rfl | rfl | rfl | rfl <;> rfl) | (intro u hu; simp only [List.mem_cons, List.not_mem_nil, or_false] at hu; rcases hu with rfl | rfl <;> rfl) | (intro u hu; simp only [List.mem_cons, List.not_mem_nil, or_false] at hu; subst hu; rfl)) (by simp)) rfl ?_; intro _ w hs; rw [splice_all (by rfl)] at hs
  repeat (first | (refine MC.run1 tab 1000 rfl rfl (by first | exact True.intro | (simp only [Conds, rng, Int.toNat_natCast, List.length_append, bytesV_length] <;> omega) | (simp [Conds, rng] <;> omega) | (simp only [Conds, rng, wrap_u8, wrap_u16, wrap_u32, wrap_u64] <;> omega)) ?_) | (refine MC.la true (la_load1 hs rfl (by rfl)) rfl ?_) | (refine MC.part rfl rfl (fun h => absurd h (by first | decide | omega)) (fun _ => ?_)) | (refine MC.part rfl rfl (fun _ => ?_) (fun h => absurd (by first | decide | omega) h)) | (refine MC.cond rfl (fun h => absurd h (by first | decide | omega)) (fun _ => ?_)) | (refine MC.cond rfl (fun _ => ?_) (fun h => absurd (by first | decide | omega) h)))
  refine MC.loop (σ := Nat) (fun n => [(0, true, str s), (4, true, ptr bh), (5, true, int ((n : Nat) : Int))])
    (fun n w => 1 ≤ n ∧ n ≤ 5 ∧ (∀ m, 1 ≤ m → m < n → m ≤ s.length → charL (cN s m) ≠ s.take m) ∧ Sat (blk bh [int 0, int 0, int 192, int 224, int 240] 47 :: F) w) (fun n => 5 - n) 1 (by repeat (first | exact trivial | refine ⟨rfl, ?_⟩)) ⟨by omega, by omega, fun m h1 h2 => absurd h1 (by omega), hs⟩ ?_
  rintro n w ⟨h1, h5, hall, hs⟩
  have fin : (4 < n ∨ s.length < n) → firstL s = (0, 0) := fun h => by
    unfold firstL
    split
    · rename_i ho
      obtain ⟨k1, k2, k3, k4⟩ := okD_char ho
      have := (cN_ok ho).2
      exact absurd (cN_first ho) (hall _ k4 (by omega) k3)
    · rfl
  repeat (first | (refine MC.run1 tab 1000 rfl rfl (by first | exact True.intro | (simp only [Conds, rng, Int.toNat_natCast, List.length_append, bytesV_length] <;> omega) | (simp [Conds, rng] <;> omega) | (simp only [Conds, rng, wrap_u8, wrap_u16, wrap_u32, wrap_u64] <;> omega)) ?_) | (refine MC.la true (la_load1 hs rfl (by rfl)) rfl ?_) | (refine MC.part rfl rfl (fun h => absurd h (by first | decide | omega)) (fun _ => ?_)) | (refine MC.part rfl rfl (fun _ => ?_) (fun h => absurd (by first | decide | omega) h)) | (refine MC.cond rfl (fun h => absurd h (by first | decide | omega)) (fun _ => ?_)) | (refine MC.cond rfl (fun _ => ?_) (fun h => absurd (by first | decide | omega) h)))
  refine MC.part rfl rfl (fun h6 => ?_) (fun h6 => ?_)
  · repeat (first | (refine MC.run1 tab 1000 rfl rfl (by first | exact True.intro | (simp only [Conds, rng, Int.toNat_natCast, List.length_append, bytesV_length] <;> omega) | (simp [Conds, rng] <;> omega) | (simp only [Conds, rng, wrap_u8, wrap_u16, wrap_u32, wrap_u64] <;> omega)) ?_) | (refine MC.la true (la_load1 hs rfl (by rfl)) rfl ?_) | (refine MC.part rfl rfl (fun h => absurd h (by first | decide | omega)) (fun _ => ?_)) | (refine MC.part rfl rfl (fun _ => ?_) (fun h => absurd (by first | decide | omega) h)) | (refine MC.cond rfl (fun h => absurd h (by first | decide | omega)) (fun _ => ?_)) | (refine MC.cond rfl (fun _ => ?_) (fun h => absurd (by first | decide | omega) h)))
    refine MC.cond rfl (fun h7 => ?_) (fun h7 => ?_)
    · have h6' : n ≤ 4 := by omega
      have h7' : n ≤ s.length := by omega
      have hcell : ([int 0, int 0, int 192, int 224, int 240] : List Value)[0 + ((n : Nat) : Int).toNat * 1]? = some (int (headN n)) := by
        obtain rfl | rfl | rfl | rfl : n = 1 ∨ n = 2 ∨ n = 3 ∨ n = 4 := by omega
        all_goals rfl
      have hh := headN_bd n
      have hb0 := UInt8.toNat_lt (s.getD 0 0)
      have b0 : byteAt s (0 : Int).toNat = ((s.getD 0 0).toNat : Int) := rfl
      repeat (first | (refine MC.run1 tab 1000 rfl rfl (by first | exact True.intro | (simp only [Conds, rng, Int.toNat_natCast, List.length_append, bytesV_length] <;> omega) | (simp [Conds, rng] <;> omega) | (simp only [Conds, rng, wrap_u8, wrap_u16, wrap_u32, wrap_u64] <;> omega)) ?_) | (refine MC.la true (la_load1 hs rfl (by rfl)) rfl ?_) | (refine MC.part rfl rfl (fun h => absurd h (by first | decide | omega)) (fun _ => ?_)) | (refine MC.part rfl rfl (fun _ => ?_) (fun h => absurd (by first | decide | omega) h)) | (refine MC.cond rfl (fun h => absurd h (by first | decide | omega)) (fun _ => ?_)) | (refine MC.cond rfl (fun _ => ?_) (fun h => absurd (by first | decide | omega) h)))
      refine MC.draw hs [0,1,2,3,4,5,6,7] (by rfl) ?_; intro w hs
      refine MC.run1 tab 2 rfl rfl (by simp only [Conds]; omega) ?_
      rw [b0]
      repeat (first | (refine MC.run1 tab 1000 rfl rfl (by first | exact True.intro | (simp only [Conds, rng, Int.toNat_natCast, List.length_append, bytesV_length] <;> omega) | (simp [Conds, rng] <;> omega) | (simp only [Conds, rng, wrap_u8, wrap_u16, wrap_u32, wrap_u64] <;> omega)) ?_) | (refine MC.laD true (la_load1 hs rfl (by rfl)) rfl ?_) | (refine MC.part rfl rfl (fun h => absurd h (by first | decide | omega)) (fun _ => ?_)) | (refine MC.part rfl rfl (fun _ => ?_) (fun h => absurd (by first | decide | omega) h)) | (refine MC.cond rfl (fun h => absurd h (by first | decide | omega)) (fun _ => ?_)) | (refine MC.cond rfl (fun _ => ?_) (fun h => absurd (by first | decide | omega) h)))
      refine MC.laD true (la_load1 hs rfl hcell) rfl ?_
      repeat (first | (refine MC.run1 tab 1000 rfl rfl (by first | exact True.intro | (simp only [Conds, rng, Int.toNat_natCast, List.length_append, bytesV_length] <;> omega) | (simp [Conds, rng] <;> omega) | (simp only [Conds, rng, wrap_u8, wrap_u16, wrap_u32, wrap_u64] <;> omega)) ?_) | (refine MC.laD true (la_load1 hs rfl (by rfl)) rfl ?_) | (refine MC.part rfl rfl (fun h => absurd h (by first | decide | omega)) (fun _ => ?_)) | (refine MC.part rfl rfl (fun _ => ?_) (fun h => absurd (by first | decide | omega) h)) | (refine MC.cond rfl (fun h => absurd h (by first | decide | omega)) (fun _ => ?_)) | (refine MC.cond rfl (fun _ => ?_) (fun h => absurd (by first | decide | omega) h)))
      refine MC.loop (σ := Nat) (fun j => [(0, true, str s), (4, true, ptr bh), (5, true, int ((n : Nat) : Int)), (6, true, int (cI s n j)), (7, true, int ((j + 1 : Nat) : Int))])
        (fun j w => j ≤ n - 1 ∧ Sat (blk bh [int 0, int 0, int 192, int 224, int 240] 47 :: F) w) (fun j => n - j) 0 (by repeat (first | exact trivial | refine ⟨rfl, ?_⟩)) ⟨by omega, hs⟩ ?_
      rintro j w ⟨hj, hs⟩
      repeat (first | (refine MC.run1 tab 1000 rfl rfl (by first | exact True.intro | (simp only [Conds, rng, Int.toNat_natCast, List.length_append, bytesV_length] <;> omega) | (simp [Conds, rng] <;> omega) | (simp only [Conds, rng, wrap_u8, wrap_u16, wrap_u32, wrap_u64] <;> omega)) ?_) | (refine MC.la true (la_load1 hs rfl (by rfl)) rfl ?_) | (refine MC.part rfl rfl (fun h => absurd h (by first | decide | omega)) (fun _ => ?_)) | (refine MC.part rfl rfl (fun _ => ?_) (fun h => absurd (by first | decide | omega) h)) | (refine MC.cond rfl (fun h => absurd h (by first | decide | omega)) (fun _ => ?_)) | (refine MC.cond rfl (fun _ => ?_) (fun h => absurd (by first | decide | omega) h)))
      refine MC.cond rfl (fun h8 => ?_) (fun h8 => ?_)
      · have hbd := cI_bd s n j (by omega)
        have hbj := UInt8.toNat_lt (s.getD (j + 1) 0)
        have bj : byteAt s (((j + 1 : Nat)) : Int).toNat = ((s.getD (j + 1) 0).toNat : Int) := rfl
        obtain ⟨z, hz⟩ : ∃ z, byteAt s (((j + 1 : Nat)) : Int).toNat = z := ⟨_, rfl⟩
        rw [bj] at hz
        refine MC.run1 tab 10 rfl rfl (by simp only [Conds, rng, bj]; omega) ?_
        refine MC.run1 tab 1000 rfl rfl (by simp only [Conds, rng, bj]; omega) ?_
        refine MC.again (j + 1) ⟨rfl, rfl, rfl, rfl, ?_, trivial⟩ ⟨by omega, hs⟩ (by omega)
        exact congrArg (fun n => some (int n)) (by omega)
      · obtain rfl : j = n - 1 := by omega
        have hcn : cI s n (n - 1) = cN s n := rfl
        rw [hcn]
        repeat (first | (refine MC.run1 tab 1000 rfl rfl (by first | exact True.intro | (simp only [Conds, rng, Int.toNat_natCast, List.length_append, bytesV_length] <;> omega) | (simp [Conds, rng] <;> omega) | (simp only [Conds, rng, wrap_u8, wrap_u16, wrap_u32, wrap_u64] <;> omega)) ?_) | (refine MC.la true (la_load1 hs rfl (by rfl)) rfl ?_) | (refine MC.part rfl rfl (fun h => absurd h (by first | decide | omega)) (fun _ => ?_)) | (refine MC.part rfl rfl (fun _ => ?_) (fun h => absurd (by first | decide | omega) h)) | (refine MC.cond rfl (fun h => absurd h (by first | decide | omega)) (fun _ => ?_)) | (refine MC.cond rfl (fun _ => ?_) (fun h => absurd (by first | decide | omega) h)))
        refine MC.draw hs [0,2,3,4,1,5] (by rfl) ?_; intro w hs
        repeat (first | (refine MC.run1 tab 1000 rfl rfl (by first | exact True.intro | (simp only [Conds, rng, Int.toNat_natCast, List.length_append, bytesV_length] <;> omega) | (simp [Conds, rng] <;> omega) | (simp only [Conds, rng, wrap_u8, wrap_u16, wrap_u32, wrap_u64] <;> omega)) ?_) | (refine MC.laD true (la_load1 hs rfl (by rfl)) rfl ?_) | (refine MC.part rfl rfl (fun h => absurd h (by first | decide | omega)) (fun _ => ?_)) | (refine MC.part rfl rfl (fun _ => ?_) (fun h => absurd (by first | decide | omega) h)) | (refine MC.cond rfl (fun h => absurd h (by first | decide | omega)) (fun _ => ?_)) | (refine MC.cond rfl (fun _ => ?_) (fun h => absurd (by first | decide | omega) h)))
        refine MC.doesK true (does_call rfl (char_spec (cN s n) hs)) rfl rfl rfl ?_
        rintro _ w ⟨rfl, hs⟩
        refine ⟨(by repeat (first | exact True.intro | refine ⟨At.sat hs, ?_⟩ | refine ⟨Suf.sat hs, ?_⟩)), ?_⟩
        repeat (first | (refine MC.run1 tab 1000 rfl rfl (by first | exact True.intro | (simp only [Conds, rng, Int.toNat_natCast, List.length_append, bytesV_length] <;> omega) | (simp [Conds, rng] <;> omega) | (simp only [Conds, rng, wrap_u8, wrap_u16, wrap_u32, wrap_u64] <;> omega)) ?_) | (refine MC.laD true (la_load1 hs rfl (by rfl)) rfl ?_) | (refine MC.part rfl rfl (fun h => absurd h (by first | decide | omega)) (fun _ => ?_)) | (refine MC.part rfl rfl (fun _ => ?_) (fun h => absurd (by first | decide | omega) h)) | (refine MC.cond rfl (fun h => absurd h (by first | decide | omega)) (fun _ => ?_)) | (refine MC.cond rfl (fun _ => ?_) (fun h => absurd (by first | decide | omega) h)))
        have htk : s.take ((n : Nat) : Int).toNat = s.take n := rfl
        rw [htk]
        refine MC.cond rfl (fun h9 => ?_) (fun h9 => ?_)
        · obtain ⟨ho, hw⟩ := cN_only h1 h7' h9
          have hcv := (cN_ok ho).1
          rw [hw] at hcv
          repeat (first | (refine MC.run1 tab 1000 rfl rfl (by first | exact True.intro | (simp only [Conds, rng, Int.toNat_natCast, List.length_append, bytesV_length] <;> omega) | (simp [Conds, rng] <;> omega) | (simp only [Conds, rng, wrap_u8, wrap_u16, wrap_u32, wrap_u64] <;> omega)) ?_) | (refine MC.la true (la_load1 hs rfl (by rfl)) rfl ?_) | (refine MC.part rfl rfl (fun h => absurd h (by first | decide | omega)) (fun _ => ?_)) | (refine MC.part rfl rfl (fun _ => ?_) (fun h => absurd (by first | decide | omega) h)) | (refine MC.cond rfl (fun h => absurd h (by first | decide | omega)) (fun _ => ?_)) | (refine MC.cond rfl (fun _ => ?_) (fun h => absurd (by first | decide | omega) h)))
          refine MC.ret rfl ?_
          rw [firstL, if_pos ho, hw, ← hcv]
          exact ⟨rfl, hs.tail⟩
        · repeat (first | (refine MC.run1 tab 1000 rfl rfl (by first | exact True.intro | (simp only [Conds, rng, Int.toNat_natCast, List.length_append, bytesV_length] <;> omega) | (simp [Conds, rng] <;> omega) | (simp only [Conds, rng, wrap_u8, wrap_u16, wrap_u32, wrap_u64] <;> omega)) ?_) | (refine MC.la true (la_load1 hs rfl (by rfl)) rfl ?_) | (refine MC.part rfl rfl (fun h => absurd h (by first | decide | omega)) (fun _ => ?_)) | (refine MC.part rfl rfl (fun _ => ?_) (fun h => absurd (by first | decide | omega) h)) | (refine MC.cond rfl (fun h => absurd h (by first | decide | omega)) (fun _ => ?_)) | (refine MC.cond rfl (fun _ => ?_) (fun h => absurd (by first | decide | omega) h)))
          refine MC.again (n + 1) ⟨rfl, rfl, congrArg (fun n => some (int n)) (by omega), trivial⟩ ⟨by omega, by omega, fun m k1 k2 k3 => ?_, hs⟩ (by omega)
          rcases Nat.lt_or_ge m n with h' | h'
          · exact hall m k1 h' k3
          · obtain rfl : m = n := by omega
            exact h9
    · have e := fin (.inr (by omega))
      repeat (first | (refine MC.run1 tab 1000 rfl rfl (by first | exact True.intro | (simp only [Conds, rng, Int.toNat_natCast, List.length_append, bytesV_length] <;> omega) | (simp [Conds, rng] <;> omega) | (simp only [Conds, rng, wrap_u8, wrap_u16, wrap_u32, wrap_u64] <;> omega)) ?_) | (refine MC.la true (la_load1 hs rfl (by rfl)) rfl ?_) | (refine MC.part rfl rfl (fun h => absurd h (by first | decide | omega)) (fun _ => ?_)) | (refine MC.part rfl rfl (fun _ => ?_) (fun h => absurd (by first | decide | omega) h)) | (refine MC.cond rfl (fun h => absurd h (by first | decide | omega)) (fun _ => ?_)) | (refine MC.cond rfl (fun _ => ?_) (fun h => absurd (by first | decide | omega) h)))
      refine MC.ret rfl ?_
      rw [e]
      exact ⟨rfl, hs.tail⟩
  · have e := fin (.inl (by omega))
    repeat (first | (refine MC.run1 tab 1000 rfl rfl (by first | exact True.intro | (simp only [Conds, rng, Int.toNat_natCast, List.length_append, bytesV_length] <;> omega) | (simp [Conds, rng] <;> omega) | (simp only [Conds, rng, wrap_u8, wrap_u16, wrap_u32, wrap_u64] <;> omega)) ?_) | (refine MC.la true (la_load1 hs rfl (by rfl)) rfl ?_) | (refine MC.part rfl rfl (fun h => absurd h (by first | decide | omega)) (fun _ => ?_)) | (refine MC.part rfl rfl (fun _ => ?_) (fun h => absurd (by first | decide | omega) h)) | (refine MC.cond rfl (fun h => absurd h (by first | decide | omega)) (fun _ => ?_)) | (refine MC.cond rfl (fun _ => ?_) (fun h => absurd (by first | decide | omega) h)))
    refine MC.ret rfl ?_
    rw [e]
    exact ⟨rfl, hs.tail⟩
end Go.Proofs.YtmloccinejhopaaDoor
