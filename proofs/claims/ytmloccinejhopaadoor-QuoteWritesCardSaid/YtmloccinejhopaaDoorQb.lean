/- Texts in quotes: the program's escapes. -/
import Derived.Test.YtmloccinejhopaaDoorQa
set_option linter.unusedVariables false
set_option linter.unusedSimpArgs false
namespace Go.Proofs.YtmloccinejhopaaDoor
open Go Go.Sl Go.Qt Go.Lib
attribute [local irreducible] LooksAt

def hexs (s : Bs) : Nat → Option Nat
  | 0 => some 0
  | i + 1 => match hexs s i, dig (s.getD i 0) with
    | some r, some d => some (r * 16 + d)
    | _, _ => none
theorem hex4_hexs (s : Bs) (h : 4 ≤ s.length) : hex4 s = hexs s 4 := by
  match s, h with
  | a :: b :: c :: d :: t, _ =>
    simp only [hex4, hexs, List.getD_cons_zero, List.getD_cons_succ]
    cases dig a <;> cases dig b <;> cases dig c <;> cases dig d <;> simp
theorem hex4_short (s : Bs) (h : s.length < 4) : hex4 s = none := by
  match s, h with
  | [], _ => rfl
  | [_], _ => rfl
  | [_, _], _ => rfl
  | [_, _, _], _ => rfl
theorem dig_lt {c : UInt8} {n : Nat} (e : dig c = some n) : n < 16 := by
  unfold dig at e
  split at e
  · cases e; omega
  · split at e
    · cases e; omega
    · split at e
      · cases e; omega
      · cases e
theorem hexs_lt (s : Bs) : ∀ (i r : Nat), hexs s i = some r → r < 16 ^ i
  | 0, r, h => by cases h; decide
  | i + 1, r, h => by
    simp only [hexs] at h
    split at h
    · rename_i r' d e1 e2
      cases h
      have := hexs_lt s i r' e1
      have := dig_lt e2
      rw [Nat.pow_succ]; omega
    · cases h
theorem hexs_none (s : Bs) (i : Nat) (h : hexs s (i + 1) = none) : ∀ k, hexs s (i + 1 + k) = none
  | 0 => h
  | k + 1 => by
    have := hexs_none s i h k
    show hexs s ((i + 1 + k) + 1) = none
    simp only [hexs, this]
theorem hexs_step {s : Bs} {i r d : Nat} (h : hexs s i = some r) (hd : dig (s.getD i 0) = some d) : hexs s (i + 1) = some (r * 16 + d) := by
  simp only [hexs, h, hd]
theorem hexs_stop {s : Bs} {i : Nat} (hi : i < 4) (hd : dig (s.getD i 0) = none) : hexs s 4 = none := by
  have h1 : hexs s (i + 1) = none := by
    simp only [hexs, hd]
    cases hexs s i <;> rfl
  have := hexs_none s i h1 (3 - i)
  rwa [show i + 1 + (3 - i) = 4 by omega] at this
def pairV (o : Option Nat) : Value := match o with | none => .tuple #[rune 0, bool false] | some a => .tuple #[rune (a : Int), bool true]
theorem four_spec {F : List Assn} {w : World} (s : Bs) (hs : Sat F w) (hl : s.length ≤ 140737488355328) :
    Ret Tryd.prog 29 [str s] w fun v w' => v = pairV (hex4 s) ∧ w' = w := by
  refine Ret.enter [(true, str s)] _ Tryd.func29 rfl Tryd.ntmps29 rfl ?_
  repeat (first | (refine MC.run1 tab 1000 rfl rfl (by first | exact True.intro | (simp only [Conds, rng, Int.toNat_natCast, List.length_append, bytesV_length] <;> omega) | (simp [Conds, rng] <;> omega) | (simp only [Conds, rng, wrap_u8, wrap_u16, wrap_u32, wrap_u64] <;> omega)) ?_) | (refine MC.la true (la_load1 hs rfl (by rfl)) rfl ?_) | (refine MC.part rfl rfl (fun h => absurd h (by first | decide | omega)) (fun _ => ?_)) | (refine MC.part rfl rfl (fun _ => ?_) (fun h => absurd (by first | decide | omega) h)) | (refine MC.cond rfl (fun h => absurd h (by first | decide | omega)) (fun _ => ?_)) | (refine MC.cond rfl (fun _ => ?_) (fun h => absurd (by first | decide | omega) h)))
  refine MC.cond rfl (fun h => ?_) (fun h => ?_)
  · repeat (first | (refine MC.run1 tab 1000 rfl rfl (by first | exact True.intro | (simp only [Conds, rng, Int.toNat_natCast, List.length_append, bytesV_length] <;> omega) | (simp [Conds, rng] <;> omega) | (simp only [Conds, rng, wrap_u8, wrap_u16, wrap_u32, wrap_u64] <;> omega)) ?_) | (refine MC.la true (la_load1 hs rfl (by rfl)) rfl ?_) | (refine MC.part rfl rfl (fun h => absurd h (by first | decide | omega)) (fun _ => ?_)) | (refine MC.part rfl rfl (fun _ => ?_) (fun h => absurd (by first | decide | omega) h)) | (refine MC.cond rfl (fun h => absurd h (by first | decide | omega)) (fun _ => ?_)) | (refine MC.cond rfl (fun _ => ?_) (fun h => absurd (by first | decide | omega) h)))
    refine MC.ret rfl ?_
    rw [hex4_short s (by omega)]
    exact ⟨rfl, rfl⟩
  have h4 : 4 ≤ s.length := by omega
  rw [hex4_hexs s h4]
  repeat (first | (refine MC.run1 tab 1000 rfl rfl (by first | exact True.intro | (simp only [Conds, rng, Int.toNat_natCast, List.length_append, bytesV_length] <;> omega) | (simp [Conds, rng] <;> omega) | (simp only [Conds, rng, wrap_u8, wrap_u16, wrap_u32, wrap_u64] <;> omega)) ?_) | (refine MC.la true (la_load1 hs rfl (by rfl)) rfl ?_) | (refine MC.part rfl rfl (fun h => absurd h (by first | decide | omega)) (fun _ => ?_)) | (refine MC.part rfl rfl (fun _ => ?_) (fun h => absurd (by first | decide | omega) h)) | (refine MC.cond rfl (fun h => absurd h (by first | decide | omega)) (fun _ => ?_)) | (refine MC.cond rfl (fun _ => ?_) (fun h => absurd (by first | decide | omega) h)))
  refine MC.loop (σ := Nat × Nat) (fun x => [(0, true, str s), (4, true, rune ((x.2 : Nat) : Int)), (10, true, int ((x.1 : Nat) : Int))])
    (fun x w' => x.1 ≤ 4 ∧ hexs s x.1 = some x.2 ∧ w' = w) (fun x => 4 - x.1) (0, 0) (by repeat (first | exact trivial | refine ⟨rfl, ?_⟩)) ⟨by omega, rfl, rfl⟩ ?_
  rintro ⟨i, r⟩ w' ⟨hi, hh, rfl⟩
  have hi : i ≤ 4 := hi
  have hh : hexs s i = some r := hh
  dsimp only []
  repeat (first | (refine MC.run1 tab 1000 rfl rfl (by first | exact True.intro | (simp only [Conds, rng, Int.toNat_natCast, List.length_append, bytesV_length] <;> omega) | (simp [Conds, rng] <;> omega) | (simp only [Conds, rng, wrap_u8, wrap_u16, wrap_u32, wrap_u64] <;> omega)) ?_) | (refine MC.la true (la_load1 hs rfl (by rfl)) rfl ?_) | (refine MC.part rfl rfl (fun h => absurd h (by first | decide | omega)) (fun _ => ?_)) | (refine MC.part rfl rfl (fun _ => ?_) (fun h => absurd (by first | decide | omega) h)) | (refine MC.cond rfl (fun h => absurd h (by first | decide | omega)) (fun _ => ?_)) | (refine MC.cond rfl (fun _ => ?_) (fun h => absurd (by first | decide | omega) h)))
  refine MC.cond rfl (fun hlt => ?_) (fun hge => ?_)
  · have hlt : i < 4 := by omega
    have hr : r ≤ 4095 := by
      have h1 := hexs_lt s i r hh
      have h2 : 16 ^ i ≤ 16 ^ 3 := Nat.pow_le_pow_right (by decide) (by omega)
      omega
    obtain ⟨z, hz⟩ : ∃ z, byteAt s ((i : Nat) : Int).toNat = z := ⟨_, rfl⟩
    have hz2 : ((s.getD i 0).toNat : Int) = z := hz
    have hzb := UInt8.toNat_lt (s.getD i 0)
    repeat (first | (refine MC.run1 tab 1000 rfl rfl (by first | exact True.intro | (simp only [Conds, rng, Int.toNat_natCast, List.length_append, bytesV_length] <;> omega) | (simp [Conds, rng] <;> omega) | (simp only [Conds, rng, wrap_u8, wrap_u16, wrap_u32, wrap_u64] <;> omega)) ?_) | (refine MC.la true (la_load1 hs rfl (by rfl)) rfl ?_) | (refine MC.part rfl rfl (fun h => absurd h (by first | decide | omega)) (fun _ => ?_)) | (refine MC.part rfl rfl (fun _ => ?_) (fun h => absurd (by first | decide | omega) h)) | (refine MC.cond rfl (fun h => absurd h (by first | decide | omega)) (fun _ => ?_)) | (refine MC.cond rfl (fun _ => ?_) (fun h => absurd (by first | decide | omega) h)))
    rw [hz]
    refine MC.cutAt 1 [(0, true, str s), (4, true, rune ((r : Nat) : Int)), (10, true, int ((i : Nat) : Int)), (6, true, .int .u8 z), (16, false, bool (decide (48 ≤ z ∧ z ≤ 57)))] (fun w'' => w'' = w') rfl (fun w'' e => ?_) ?_
    · subst e
      (try dsimp only [List.drop_succ_cons, List.drop_zero, List.take_succ_cons, List.take_zero, List.cons_append, List.nil_append])
      refine MC.cond rfl (fun h1 => ?_) (fun h1 => ?_)
      · have hd : dig (s.getD i 0) = some ((s.getD i 0).toNat - 48) := by
          unfold dig; rw [if_pos (by omega)]
        have hst := hexs_step hh hd
        repeat (first | (refine MC.run1 tab 1000 rfl rfl (by first | exact True.intro | (simp only [Conds, rng, Int.toNat_natCast, List.length_append, bytesV_length] <;> omega) | (simp [Conds, rng] <;> omega) | (simp only [Conds, rng, wrap_u8, wrap_u16, wrap_u32, wrap_u64] <;> omega)) ?_) | (refine MC.la true (la_load1 hs rfl (by rfl)) rfl ?_) | (refine MC.part rfl rfl (fun h => absurd h (by first | decide | omega)) (fun _ => ?_)) | (refine MC.part rfl rfl (fun _ => ?_) (fun h => absurd (by first | decide | omega) h)) | (refine MC.cond rfl (fun h => absurd h (by first | decide | omega)) (fun _ => ?_)) | (refine MC.cond rfl (fun _ => ?_) (fun h => absurd (by first | decide | omega) h)))
        refine MC.pure (f := true) (po_bin rfl rfl (br_orS' 4 r (by rw [wrap_u8]; omega) (by rw [wrap_u8]; omega) (by omega) (by rw [wrap_u8, i32max]; omega))) rfl ?_
        repeat (first | (refine MC.run1 tab 1000 rfl rfl (by first | exact True.intro | (simp only [Conds, rng, Int.toNat_natCast, List.length_append, bytesV_length] <;> omega) | (simp [Conds, rng] <;> omega) | (simp only [Conds, rng, wrap_u8, wrap_u16, wrap_u32, wrap_u64] <;> omega)) ?_) | (refine MC.la true (la_load1 hs rfl (by rfl)) rfl ?_) | (refine MC.part rfl rfl (fun h => absurd h (by first | decide | omega)) (fun _ => ?_)) | (refine MC.part rfl rfl (fun _ => ?_) (fun h => absurd (by first | decide | omega) h)) | (refine MC.cond rfl (fun h => absurd h (by first | decide | omega)) (fun _ => ?_)) | (refine MC.cond rfl (fun _ => ?_) (fun h => absurd (by first | decide | omega) h)))
        refine MC.again (i + 1, r * 16 + ((s.getD i 0).toNat - 48)) ⟨rfl, ?_, rfl, trivial⟩ ⟨hlt, hst, rfl⟩ (by show 4 - (i + 1) < 4 - i; omega)
        exact congrArg (fun n => some (Value.int .i32 n)) (by rw [wrap_u8]; omega)
      · repeat (first | (refine MC.run1 tab 1000 rfl rfl (by first | exact True.intro | (simp only [Conds, rng, Int.toNat_natCast, List.length_append, bytesV_length] <;> omega) | (simp [Conds, rng] <;> omega) | (simp only [Conds, rng, wrap_u8, wrap_u16, wrap_u32, wrap_u64] <;> omega)) ?_) | (refine MC.la true (la_load1 hs rfl (by rfl)) rfl ?_) | (refine MC.part rfl rfl (fun h => absurd h (by first | decide | omega)) (fun _ => ?_)) | (refine MC.part rfl rfl (fun _ => ?_) (fun h => absurd (by first | decide | omega) h)) | (refine MC.cond rfl (fun h => absurd h (by first | decide | omega)) (fun _ => ?_)) | (refine MC.cond rfl (fun _ => ?_) (fun h => absurd (by first | decide | omega) h)))
        refine MC.cutAt 1 [(0, true, str s), (4, true, rune ((r : Nat) : Int)), (10, true, int ((i : Nat) : Int)), (6, true, .int .u8 z), (29, false, bool (decide (97 ≤ z ∧ z ≤ 102)))] (fun w''' => w''' = w'') rfl (fun w''' e => ?_) ?_
        · subst e
          (try dsimp only [List.drop_succ_cons, List.drop_zero, List.take_succ_cons, List.take_zero, List.cons_append, List.nil_append])
          refine MC.cond rfl (fun h2 => ?_) (fun h2 => ?_)
          · have hd : dig (s.getD i 0) = some ((s.getD i 0).toNat - 87) := by
              unfold dig; rw [if_neg (by omega), if_pos (by omega)]
            have hst := hexs_step hh hd
            repeat (first | (refine MC.run1 tab 1000 rfl rfl (by first | exact True.intro | (simp only [Conds, rng, Int.toNat_natCast, List.length_append, bytesV_length] <;> omega) | (simp [Conds, rng] <;> omega) | (simp only [Conds, rng, wrap_u8, wrap_u16, wrap_u32, wrap_u64] <;> omega)) ?_) | (refine MC.la true (la_load1 hs rfl (by rfl)) rfl ?_) | (refine MC.part rfl rfl (fun h => absurd h (by first | decide | omega)) (fun _ => ?_)) | (refine MC.part rfl rfl (fun _ => ?_) (fun h => absurd (by first | decide | omega) h)) | (refine MC.cond rfl (fun h => absurd h (by first | decide | omega)) (fun _ => ?_)) | (refine MC.cond rfl (fun _ => ?_) (fun h => absurd (by first | decide | omega) h)))
            refine MC.pure (f := true) (po_bin rfl rfl (br_orS' 4 r (by simp only [wrap_u8]; omega) (by simp only [wrap_u8]; omega) (by omega) (by simp only [wrap_u8, i32max]; omega))) rfl ?_
            repeat (first | (refine MC.run1 tab 1000 rfl rfl (by first | exact True.intro | (simp only [Conds, rng, Int.toNat_natCast, List.length_append, bytesV_length] <;> omega) | (simp [Conds, rng] <;> omega) | (simp only [Conds, rng, wrap_u8, wrap_u16, wrap_u32, wrap_u64] <;> omega)) ?_) | (refine MC.la true (la_load1 hs rfl (by rfl)) rfl ?_) | (refine MC.part rfl rfl (fun h => absurd h (by first | decide | omega)) (fun _ => ?_)) | (refine MC.part rfl rfl (fun _ => ?_) (fun h => absurd (by first | decide | omega) h)) | (refine MC.cond rfl (fun h => absurd h (by first | decide | omega)) (fun _ => ?_)) | (refine MC.cond rfl (fun _ => ?_) (fun h => absurd (by first | decide | omega) h)))
            refine MC.again (i + 1, r * 16 + ((s.getD i 0).toNat - 87)) ⟨rfl, ?_, rfl, trivial⟩ ⟨hlt, hst, rfl⟩ (by show 4 - (i + 1) < 4 - i; omega)
            exact congrArg (fun n => some (Value.int .i32 n)) (by simp only [wrap_u8]; omega)
          · repeat (first | (refine MC.run1 tab 1000 rfl rfl (by first | exact True.intro | (simp only [Conds, rng, Int.toNat_natCast, List.length_append, bytesV_length] <;> omega) | (simp [Conds, rng] <;> omega) | (simp only [Conds, rng, wrap_u8, wrap_u16, wrap_u32, wrap_u64] <;> omega)) ?_) | (refine MC.la true (la_load1 hs rfl (by rfl)) rfl ?_) | (refine MC.part rfl rfl (fun h => absurd h (by first | decide | omega)) (fun _ => ?_)) | (refine MC.part rfl rfl (fun _ => ?_) (fun h => absurd (by first | decide | omega) h)) | (refine MC.cond rfl (fun h => absurd h (by first | decide | omega)) (fun _ => ?_)) | (refine MC.cond rfl (fun _ => ?_) (fun h => absurd (by first | decide | omega) h)))
            refine MC.cutAt 1 [(0, true, str s), (4, true, rune ((r : Nat) : Int)), (10, true, int ((i : Nat) : Int)), (6, true, .int .u8 z), (43, false, bool (decide (65 ≤ z ∧ z ≤ 70)))] (fun w4 => w4 = w''') rfl (fun w4 e => ?_) ?_
            · subst e
              (try dsimp only [List.drop_succ_cons, List.drop_zero, List.take_succ_cons, List.take_zero, List.cons_append, List.nil_append])
              refine MC.cond rfl (fun h3 => ?_) (fun h3 => ?_)
              · have hd : dig (s.getD i 0) = some ((s.getD i 0).toNat - 55) := by
                  unfold dig; rw [if_neg (by omega), if_neg (by omega), if_pos (by omega)]
                have hst := hexs_step hh hd
                repeat (first | (refine MC.run1 tab 1000 rfl rfl (by first | exact True.intro | (simp only [Conds, rng, Int.toNat_natCast, List.length_append, bytesV_length] <;> omega) | (simp [Conds, rng] <;> omega) | (simp only [Conds, rng, wrap_u8, wrap_u16, wrap_u32, wrap_u64] <;> omega)) ?_) | (refine MC.la true (la_load1 hs rfl (by rfl)) rfl ?_) | (refine MC.part rfl rfl (fun h => absurd h (by first | decide | omega)) (fun _ => ?_)) | (refine MC.part rfl rfl (fun _ => ?_) (fun h => absurd (by first | decide | omega) h)) | (refine MC.cond rfl (fun h => absurd h (by first | decide | omega)) (fun _ => ?_)) | (refine MC.cond rfl (fun _ => ?_) (fun h => absurd (by first | decide | omega) h)))
                refine MC.pure (f := true) (po_bin rfl rfl (br_orS' 4 r (by simp only [wrap_u8]; omega) (by simp only [wrap_u8]; omega) (by omega) (by simp only [wrap_u8, i32max]; omega))) rfl ?_
                repeat (first | (refine MC.run1 tab 1000 rfl rfl (by first | exact True.intro | (simp only [Conds, rng, Int.toNat_natCast, List.length_append, bytesV_length] <;> omega) | (simp [Conds, rng] <;> omega) | (simp only [Conds, rng, wrap_u8, wrap_u16, wrap_u32, wrap_u64] <;> omega)) ?_) | (refine MC.la true (la_load1 hs rfl (by rfl)) rfl ?_) | (refine MC.part rfl rfl (fun h => absurd h (by first | decide | omega)) (fun _ => ?_)) | (refine MC.part rfl rfl (fun _ => ?_) (fun h => absurd (by first | decide | omega) h)) | (refine MC.cond rfl (fun h => absurd h (by first | decide | omega)) (fun _ => ?_)) | (refine MC.cond rfl (fun _ => ?_) (fun h => absurd (by first | decide | omega) h)))
                refine MC.again (i + 1, r * 16 + ((s.getD i 0).toNat - 55)) ⟨rfl, ?_, rfl, trivial⟩ ⟨hlt, hst, rfl⟩ (by show 4 - (i + 1) < 4 - i; omega)
                exact congrArg (fun n => some (Value.int .i32 n)) (by simp only [wrap_u8]; omega)
              · have hd : dig (s.getD i 0) = none := by
                  unfold dig; rw [if_neg (by omega), if_neg (by omega), if_neg (by omega)]
                repeat (first | (refine MC.run1 tab 1000 rfl rfl (by first | exact True.intro | (simp only [Conds, rng, Int.toNat_natCast, List.length_append, bytesV_length] <;> omega) | (simp [Conds, rng] <;> omega) | (simp only [Conds, rng, wrap_u8, wrap_u16, wrap_u32, wrap_u64] <;> omega)) ?_) | (refine MC.la true (la_load1 hs rfl (by rfl)) rfl ?_) | (refine MC.part rfl rfl (fun h => absurd h (by first | decide | omega)) (fun _ => ?_)) | (refine MC.part rfl rfl (fun _ => ?_) (fun h => absurd (by first | decide | omega) h)) | (refine MC.cond rfl (fun h => absurd h (by first | decide | omega)) (fun _ => ?_)) | (refine MC.cond rfl (fun _ => ?_) (fun h => absurd (by first | decide | omega) h)))
                refine MC.ret rfl ?_
                rw [hexs_stop hlt hd]
                exact ⟨rfl, rfl⟩
            · (try dsimp only [List.drop_succ_cons, List.drop_zero, List.take_succ_cons, List.take_zero, List.cons_append, List.nil_append])
              refine MC.part rfl rfl (fun h3 => ?_) (fun h3 => ?_)
              · repeat (first | (refine MC.run1 tab 1000 rfl rfl (by first | exact True.intro | (simp only [Conds, rng, Int.toNat_natCast, List.length_append, bytesV_length] <;> omega) | (simp [Conds, rng] <;> omega) | (simp only [Conds, rng, wrap_u8, wrap_u16, wrap_u32, wrap_u64] <;> omega)) ?_) | (refine MC.la true (la_load1 hs rfl (by rfl)) rfl ?_) | (refine MC.part rfl rfl (fun h => absurd h (by first | decide | omega)) (fun _ => ?_)) | (refine MC.part rfl rfl (fun _ => ?_) (fun h => absurd (by first | decide | omega) h)) | (refine MC.cond rfl (fun h => absurd h (by first | decide | omega)) (fun _ => ?_)) | (refine MC.cond rfl (fun _ => ?_) (fun h => absurd (by first | decide | omega) h)))
                refine MC.meet ⟨rfl, rfl, rfl, rfl, ?_, trivial⟩ rfl
                exact congrArg (fun b => some (bool b)) (decide_eq_decide.2 ⟨fun h => ⟨h3, h⟩, fun h => h.2⟩)
              · repeat (first | (refine MC.run1 tab 1000 rfl rfl (by first | exact True.intro | (simp only [Conds, rng, Int.toNat_natCast, List.length_append, bytesV_length] <;> omega) | (simp [Conds, rng] <;> omega) | (simp only [Conds, rng, wrap_u8, wrap_u16, wrap_u32, wrap_u64] <;> omega)) ?_) | (refine MC.la true (la_load1 hs rfl (by rfl)) rfl ?_) | (refine MC.part rfl rfl (fun h => absurd h (by first | decide | omega)) (fun _ => ?_)) | (refine MC.part rfl rfl (fun _ => ?_) (fun h => absurd (by first | decide | omega) h)) | (refine MC.cond rfl (fun h => absurd h (by first | decide | omega)) (fun _ => ?_)) | (refine MC.cond rfl (fun _ => ?_) (fun h => absurd (by first | decide | omega) h)))
                refine MC.meet ⟨rfl, rfl, rfl, rfl, ?_, trivial⟩ rfl
                exact congrArg (fun b => some (bool b)) (decide_eq_false (fun h => h3 h.1)).symm
        · (try dsimp only [List.drop_succ_cons, List.drop_zero, List.take_succ_cons, List.take_zero, List.cons_append, List.nil_append])
          refine MC.part rfl rfl (fun h3 => ?_) (fun h3 => ?_)
          · repeat (first | (refine MC.run1 tab 1000 rfl rfl (by first | exact True.intro | (simp only [Conds, rng, Int.toNat_natCast, List.length_append, bytesV_length] <;> omega) | (simp [Conds, rng] <;> omega) | (simp only [Conds, rng, wrap_u8, wrap_u16, wrap_u32, wrap_u64] <;> omega)) ?_) | (refine MC.la true (la_load1 hs rfl (by rfl)) rfl ?_) | (refine MC.part rfl rfl (fun h => absurd h (by first | decide | omega)) (fun _ => ?_)) | (refine MC.part rfl rfl (fun _ => ?_) (fun h => absurd (by first | decide | omega) h)) | (refine MC.cond rfl (fun h => absurd h (by first | decide | omega)) (fun _ => ?_)) | (refine MC.cond rfl (fun _ => ?_) (fun h => absurd (by first | decide | omega) h)))
            refine MC.meet ⟨rfl, rfl, rfl, rfl, ?_, trivial⟩ rfl
            exact congrArg (fun b => some (bool b)) (decide_eq_decide.2 ⟨fun h => ⟨h3, h⟩, fun h => h.2⟩)
          · repeat (first | (refine MC.run1 tab 1000 rfl rfl (by first | exact True.intro | (simp only [Conds, rng, Int.toNat_natCast, List.length_append, bytesV_length] <;> omega) | (simp [Conds, rng] <;> omega) | (simp only [Conds, rng, wrap_u8, wrap_u16, wrap_u32, wrap_u64] <;> omega)) ?_) | (refine MC.la true (la_load1 hs rfl (by rfl)) rfl ?_) | (refine MC.part rfl rfl (fun h => absurd h (by first | decide | omega)) (fun _ => ?_)) | (refine MC.part rfl rfl (fun _ => ?_) (fun h => absurd (by first | decide | omega) h)) | (refine MC.cond rfl (fun h => absurd h (by first | decide | omega)) (fun _ => ?_)) | (refine MC.cond rfl (fun _ => ?_) (fun h => absurd (by first | decide | omega) h)))
            refine MC.meet ⟨rfl, rfl, rfl, rfl, ?_, trivial⟩ rfl
            exact congrArg (fun b => some (bool b)) (decide_eq_false (fun h => h3 h.1)).symm
    · (try dsimp only [List.drop_succ_cons, List.drop_zero, List.take_succ_cons, List.take_zero, List.cons_append, List.nil_append])
      refine MC.part rfl rfl (fun h3 => ?_) (fun h3 => ?_)
      · repeat (first | (refine MC.run1 tab 1000 rfl rfl (by first | exact True.intro | (simp only [Conds, rng, Int.toNat_natCast, List.length_append, bytesV_length] <;> omega) | (simp [Conds, rng] <;> omega) | (simp only [Conds, rng, wrap_u8, wrap_u16, wrap_u32, wrap_u64] <;> omega)) ?_) | (refine MC.la true (la_load1 hs rfl (by rfl)) rfl ?_) | (refine MC.part rfl rfl (fun h => absurd h (by first | decide | omega)) (fun _ => ?_)) | (refine MC.part rfl rfl (fun _ => ?_) (fun h => absurd (by first | decide | omega) h)) | (refine MC.cond rfl (fun h => absurd h (by first | decide | omega)) (fun _ => ?_)) | (refine MC.cond rfl (fun _ => ?_) (fun h => absurd (by first | decide | omega) h)))
        refine MC.meet ⟨rfl, rfl, rfl, rfl, ?_, trivial⟩ rfl
        exact congrArg (fun b => some (bool b)) (decide_eq_decide.2 ⟨fun h => ⟨h3, h⟩, fun h => h.2⟩)
      · repeat (first | (refine MC.run1 tab 1000 rfl rfl (by first | exact True.intro | (simp only [Conds, rng, Int.toNat_natCast, List.length_append, bytesV_length] <;> omega) | (simp [Conds, rng] <;> omega) | (simp only [Conds, rng, wrap_u8, wrap_u16, wrap_u32, wrap_u64] <;> omega)) ?_) | (refine MC.la true (la_load1 hs rfl (by rfl)) rfl ?_) | (refine MC.part rfl rfl (fun h => absurd h (by first | decide | omega)) (fun _ => ?_)) | (refine MC.part rfl rfl (fun _ => ?_) (fun h => absurd (by first | decide | omega) h)) | (refine MC.cond rfl (fun h => absurd h (by first | decide | omega)) (fun _ => ?_)) | (refine MC.cond rfl (fun _ => ?_) (fun h => absurd (by first | decide | omega) h)))
        refine MC.meet ⟨rfl, rfl, rfl, rfl, ?_, trivial⟩ rfl
        exact congrArg (fun b => some (bool b)) (decide_eq_false (fun h => h3 h.1)).symm
  · obtain rfl : i = 4 := by omega
    repeat (first | (refine MC.run1 tab 1000 rfl rfl (by first | exact True.intro | (simp only [Conds, rng, Int.toNat_natCast, List.length_append, bytesV_length] <;> omega) | (simp [Conds, rng] <;> omega) | (simp only [Conds, rng, wrap_u8, wrap_u16, wrap_u32, wrap_u64] <;> omega)) ?_) | (refine MC.la true (la_load1 hs rfl (by rfl)) rfl ?_) | (refine MC.part rfl rfl (fun h => absurd h (by first | decide | omega)) (fun _ => ?_)) | (refine MC.part rfl rfl (fun _ => ?_) (fun h => absurd (by first | decide | omega) h)) | (refine MC.cond rfl (fun h => absurd h (by first | decide | omega)) (fun _ => ?_)) | (refine MC.cond rfl (fun _ => ?_) (fun h => absurd (by first | decide | omega) h)))
    refine MC.ret rfl ?_
    rw [hh]
    exact ⟨rfl, rfl⟩
end Go.Proofs.YtmloccinejhopaaDoor
