/- Texts in quotes: the document's reading. -/
import Derived.Test.YtmloccinejhopaaDoorQf
set_option linter.unusedVariables false
set_option linter.unusedSimpArgs false
namespace Go.Proofs.YtmloccinejhopaaDoor
open Go Go.Sl Go.Qt Go.Lib
attribute [local irreducible] LooksAt

def fromL : Bs := [34, 92, 47, 98, 102, 110, 114, 116]
def toL : List Int := [34, 92, 47, 8, 12, 10, 13, 9]
theorem esc_at {i : Nat} (hi : i < 8) (u : Bs) : escU (fromL.getD i 0 :: u) = some (toL.getD i 0, 1) := by
  obtain rfl | rfl | rfl | rfl | rfl | rfl | rfl | rfl : i = 0 ∨ i = 1 ∨ i = 2 ∨ i = 3 ∨ i = 4 ∨ i = 5 ∨ i = 6 ∨ i = 7 := by omega
  all_goals rfl
theorem esc_none {x : UInt8} (u : Bs) (h : ∀ j, j < 8 → x ≠ fromL.getD j 0) : escU (x :: u) = if x = 117 then (match uniU u with | none => none | some (r, n) => some (r, n + 1)) else none := by
  have n1 : x ≠ 34 := h 0 (by decide)
  have n2 : x ≠ 92 := h 1 (by decide)
  have n3 : x ≠ 47 := h 2 (by decide)
  have n4 : x ≠ 98 := h 3 (by decide)
  have n5 : x ≠ 102 := h 4 (by decide)
  have n6 : x ≠ 110 := h 5 (by decide)
  have n7 : x ≠ 114 := h 6 (by decide)
  have n8 : x ≠ 116 := h 7 (by decide)
  simp only [escU, n1, n2, n3, n4, n5, n6, n7, n8, or_self, if_false]
  by_cases h9 : x = 117
  · rw [if_pos h9, if_pos h9]
    cases uniU u <;> rfl
  · rw [if_neg h9, if_neg h9]
theorem unitL_u (u : Bs) : unitL (92 :: 117 :: u) = digV (hex4 u) := rfl
theorem unitL_no {x : UInt8} {u : Bs} (h : x ≠ 117) : unitL (92 :: x :: u) = -1 := by
  unfold unitL
  split
  · rename_i e
    injection e with e1 e2
    injection e2 with e3 e4
    exact absurd e3 h
  · rfl
theorem unitL_if (v : Bs) : unitL v = if v.length < 2 ∨ v.getD 0 0 ≠ 92 ∨ v.getD 1 0 ≠ 117 then -1 else digV (hex4 (v.drop 2)) := by
  match v with
  | [] => rfl
  | [a] => 
    rw [if_pos (.inl (by simp))]
    unfold unitL
    split
    · rename_i e
      simp at e
    · rfl
  | a :: b :: u =>
    by_cases h : a = 92
    · subst h
      by_cases h2 : b = 117
      · subst h2
        rfl
      · rw [if_pos (.inr (.inr h2)), unitL_no h2]
    · rw [if_pos (.inr (.inl h))]
      unfold unitL
      split
      · rename_i e
        injection e with e1 e2
        exact absurd e1 h
      · rfl
theorem uni_unit {u : Bs} {a : Nat} (h4 : hex4 u = some a) :
    uniU u = if 56320 ≤ a ∧ a < 57344 then none else if a < 55296 ∨ 57344 ≤ a then some ((a : Int), 4)
      else if unitL (u.drop 4) < 56320 ∨ 57343 < unitL (u.drop 4) then none else some (65536 + ((a : Int) - 55296) * 1024 + (unitL (u.drop 4) - 56320), 10) := by
  have hl := (hex4_bd h4).2
  unfold uniU
  rw [h4]
  dsimp only []
  by_cases h1 : 56320 ≤ a ∧ a < 57344
  · rw [if_pos h1, if_pos h1]
  rw [if_neg h1, if_neg h1]
  by_cases h2 : a < 55296 ∨ 57344 ≤ a
  · rw [if_pos h2, if_pos h2]
  rw [if_neg h2, if_neg h2, unitL_if]
  have e4 : (u.drop 4).getD 0 0 = u.getD 4 0 := by simp [List.getD_eq_getElem?_getD, List.getElem?_drop]
  have e5 : (u.drop 4).getD 1 0 = u.getD 5 0 := by simp [List.getD_eq_getElem?_getD, List.getElem?_drop]
  rw [e4, e5, List.length_drop, List.drop_drop]
  by_cases h3 : u.length < 6 ∨ u.getD 4 0 ≠ 92 ∨ u.getD 5 0 ≠ 117
  · have h3' : u.length - 4 < 2 ∨ u.getD 4 0 ≠ 92 ∨ u.getD 5 0 ≠ 117 := by
      rcases h3 with h | h
      · exact .inl (by omega)
      · exact .inr h
    rw [if_pos h3, if_pos h3', if_pos (.inl (by decide))]
  · have h3' : ¬ (u.length - 4 < 2 ∨ u.getD 4 0 ≠ 92 ∨ u.getD 5 0 ≠ 117) := by
      rintro (h | h)
      · exact h3 (.inl (by omega))
      · exact h3 (.inr h)
    rw [if_neg h3, if_neg h3']
    cases h7 : hex4 (u.drop 6) with
    | none => rw [if_pos (.inl (by decide))]
    | some b =>
      have hb : digV (some b) = (b : Int) := rfl
      rw [hb]
      dsimp only []
      by_cases h8 : b < 56320 ∨ 57344 ≤ b
      · rw [if_pos h8, if_pos (by omega)]
      · rw [if_neg h8, if_neg (by omega)]
def pieceV (o : Option (Int × Nat)) : Value := match o with | none => .tuple #[int 0, int 0] | some (c, n) => .tuple #[int c, int (n : Int)]
theorem piece_spec {F : List Assn} {w : World} (s : Bs) (hne : s ≠ []) (hs : Sat F w) (hl : s.length ≤ 140737488355328) :
    Ret Tryd.prog 22 [str s] w fun v w' => v = pieceV (pieceL s) ∧ Sat F w' := by
  obtain ⟨b, t, rfl⟩ := List.exists_cons_of_ne_nil hne
  have hb := UInt8.toNat_lt b
  have hlen : (b :: t).length = t.length + 1 := rfl
  have b0 : byteAt (b :: t) (0 : Int).toNat = (b.toNat : Int) := rfl
  refine Ret.enter [(true, str (b :: t))] _ Tryd.func22 rfl Tryd.ntmps22 rfl ?_
  repeat (first | (refine MC.run1 tab 1000 rfl rfl (by first | exact True.intro | (simp only [Conds, rng, Int.toNat_natCast, List.length_append, bytesV_length] <;> omega) | (simp [Conds, rng] <;> omega) | (simp only [Conds, rng, wrap_u8, wrap_u16, wrap_u32, wrap_u64] <;> omega)) ?_) | (refine MC.la true (la_load1 hs rfl (by rfl)) rfl ?_) | (refine MC.part rfl rfl (fun h => absurd h (by first | decide | omega)) (fun _ => ?_)) | (refine MC.part rfl rfl (fun _ => ?_) (fun h => absurd (by first | decide | omega) h)) | (refine MC.cond rfl (fun h => absurd h (by first | decide | omega)) (fun _ => ?_)) | (refine MC.cond rfl (fun _ => ?_) (fun h => absurd (by first | decide | omega) h)))
  rw [b0]
  refine MC.cond rfl (fun h => ?_) (fun h => ?_)
  · have hb92 : b ≠ 92 := fun e => h (by rw [e]; rfl)
    have e : pieceL (b :: t) = if b.toNat < 32 ∨ b = 34 then none else if okD (b :: t) then some (((decodeL (b :: t)).1 : Int), (decodeL (b :: t)).2) else none := by
      simp only [pieceL, if_neg hb92]
    rw [e]
    have hf := first_spec (b :: t) hs hl
    by_cases ho : okD (b :: t)
    · obtain ⟨k1, k2, k3, k4⟩ := okD_char ho
      rw [firstL, if_pos ho] at hf
      dsimp only [] at hf
      rw [if_pos ho]
      obtain ⟨k0, k5, k6⟩ := id k1
      obtain ⟨b', t', e', hor⟩ := enc_head k1
      have hbb : b' = b := by
        rw [e'] at k2
        have : (decodeL (b :: t)).2 = ((decodeL (b :: t)).2 - 1) + 1 := by omega
        rw [this, List.take_succ_cons] at k2
        injection k2
      rw [hbb] at hor
      clear e
      generalize (decodeL (b :: t)).1 = c at *
      generalize (decodeL (b :: t)).2 = k at *
      repeat (first | (refine MC.run1 tab 1000 rfl rfl (by first | exact True.intro | (simp only [Conds, rng, Int.toNat_natCast, List.length_append, bytesV_length] <;> omega) | (simp [Conds, rng] <;> omega) | (simp only [Conds, rng, wrap_u8, wrap_u16, wrap_u32, wrap_u64] <;> omega)) ?_) | (refine MC.la true (la_load1 hs rfl (by rfl)) rfl ?_) | (refine MC.part rfl rfl (fun h => absurd h (by first | decide | omega)) (fun _ => ?_)) | (refine MC.part rfl rfl (fun _ => ?_) (fun h => absurd (by first | decide | omega) h)) | (refine MC.cond rfl (fun h => absurd h (by first | decide | omega)) (fun _ => ?_)) | (refine MC.cond rfl (fun _ => ?_) (fun h => absurd (by first | decide | omega) h)))
      refine MC.does true (does_call rfl (hf)) rfl ?_
      rintro _ w ⟨rfl, hs⟩
      repeat (first | (refine MC.run1 tab 1000 rfl rfl (by first | exact True.intro | (simp only [Conds, rng, Int.toNat_natCast, List.length_append, bytesV_length] <;> omega) | (simp [Conds, rng] <;> omega) | (simp only [Conds, rng, wrap_u8, wrap_u16, wrap_u32, wrap_u64] <;> omega)) ?_) | (refine MC.la true (la_load1 hs rfl (by rfl)) rfl ?_) | (refine MC.part rfl rfl (fun h => absurd h (by first | decide | omega)) (fun _ => ?_)) | (refine MC.part rfl rfl (fun _ => ?_) (fun h => absurd (by first | decide | omega) h)) | (refine MC.cond rfl (fun h => absurd h (by first | decide | omega)) (fun _ => ?_)) | (refine MC.cond rfl (fun _ => ?_) (fun h => absurd (by first | decide | omega) h)))
      refine MC.part rfl rfl (fun h1 => ?_) (fun h1 => ?_)
      · rw [if_pos (.inl (by omega))]
        repeat (first | (refine MC.run1 tab 1000 rfl rfl (by first | exact True.intro | (simp only [Conds, rng, Int.toNat_natCast, List.length_append, bytesV_length] <;> omega) | (simp [Conds, rng] <;> omega) | (simp only [Conds, rng, wrap_u8, wrap_u16, wrap_u32, wrap_u64] <;> omega)) ?_) | (refine MC.la true (la_load1 hs rfl (by rfl)) rfl ?_) | (refine MC.part rfl rfl (fun h => absurd h (by first | decide | omega)) (fun _ => ?_)) | (refine MC.part rfl rfl (fun _ => ?_) (fun h => absurd (by first | decide | omega) h)) | (refine MC.cond rfl (fun h => absurd h (by first | decide | omega)) (fun _ => ?_)) | (refine MC.cond rfl (fun _ => ?_) (fun h => absurd (by first | decide | omega) h)))
        refine MC.ret rfl ?_
        exact ⟨rfl, hs⟩
      · refine MC.run1 tab 1000 rfl rfl (by first | exact True.intro | (simp only [Conds, rng, Int.toNat_natCast, List.length_append, bytesV_length] <;> omega) | (simp [Conds, rng] <;> omega) | (simp only [Conds, rng, wrap_u8, wrap_u16, wrap_u32, wrap_u64] <;> omega)) ?_
        refine MC.cond rfl (fun h2 => ?_) (fun h2 => ?_)
        · have : b = 34 := u8i (k := 34) (by show (b.toNat : Int) = 34; omega)
          rw [if_pos (.inr this)]
          repeat (first | (refine MC.run1 tab 1000 rfl rfl (by first | exact True.intro | (simp only [Conds, rng, Int.toNat_natCast, List.length_append, bytesV_length] <;> omega) | (simp [Conds, rng] <;> omega) | (simp only [Conds, rng, wrap_u8, wrap_u16, wrap_u32, wrap_u64] <;> omega)) ?_) | (refine MC.la true (la_load1 hs rfl (by rfl)) rfl ?_) | (refine MC.part rfl rfl (fun h => absurd h (by first | decide | omega)) (fun _ => ?_)) | (refine MC.part rfl rfl (fun _ => ?_) (fun h => absurd (by first | decide | omega) h)) | (refine MC.cond rfl (fun h => absurd h (by first | decide | omega)) (fun _ => ?_)) | (refine MC.cond rfl (fun _ => ?_) (fun h => absurd (by first | decide | omega) h)))
          refine MC.ret rfl ?_
          exact ⟨rfl, hs⟩
        · rw [if_neg (by rintro (h | h); omega; subst h; exact h2 (by rcases hor with ⟨_, h⟩ | ⟨_, h⟩; rw [← h]; rfl; exact absurd h (by decide)))]
          repeat (first | (refine MC.run1 tab 1000 rfl rfl (by first | exact True.intro | (simp only [Conds, rng, Int.toNat_natCast, List.length_append, bytesV_length] <;> omega) | (simp [Conds, rng] <;> omega) | (simp only [Conds, rng, wrap_u8, wrap_u16, wrap_u32, wrap_u64] <;> omega)) ?_) | (refine MC.la true (la_load1 hs rfl (by rfl)) rfl ?_) | (refine MC.part rfl rfl (fun h => absurd h (by first | decide | omega)) (fun _ => ?_)) | (refine MC.part rfl rfl (fun _ => ?_) (fun h => absurd (by first | decide | omega) h)) | (refine MC.cond rfl (fun h => absurd h (by first | decide | omega)) (fun _ => ?_)) | (refine MC.cond rfl (fun _ => ?_) (fun h => absurd (by first | decide | omega) h)))
          refine MC.ret rfl ?_
          exact ⟨rfl, hs⟩
    · rw [firstL, if_neg ho] at hf
      rw [if_neg ho]
      have e2 : (if b.toNat < 32 ∨ b = 34 then none else (none : Option (Int × Nat))) = none := by split <;> rfl
      rw [e2]
      dsimp only [] at hf
      repeat (first | (refine MC.run1 tab 1000 rfl rfl (by first | exact True.intro | (simp only [Conds, rng, Int.toNat_natCast, List.length_append, bytesV_length] <;> omega) | (simp [Conds, rng] <;> omega) | (simp only [Conds, rng, wrap_u8, wrap_u16, wrap_u32, wrap_u64] <;> omega)) ?_) | (refine MC.la true (la_load1 hs rfl (by rfl)) rfl ?_) | (refine MC.part rfl rfl (fun h => absurd h (by first | decide | omega)) (fun _ => ?_)) | (refine MC.part rfl rfl (fun _ => ?_) (fun h => absurd (by first | decide | omega) h)) | (refine MC.cond rfl (fun h => absurd h (by first | decide | omega)) (fun _ => ?_)) | (refine MC.cond rfl (fun _ => ?_) (fun h => absurd (by first | decide | omega) h)))
      refine MC.does true (does_call rfl (hf)) rfl ?_
      rintro _ w ⟨rfl, hs⟩
      repeat (first | (refine MC.run1 tab 1000 rfl rfl (by first | exact True.intro | (simp only [Conds, rng, Int.toNat_natCast, List.length_append, bytesV_length] <;> omega) | (simp [Conds, rng] <;> omega) | (simp only [Conds, rng, wrap_u8, wrap_u16, wrap_u32, wrap_u64] <;> omega)) ?_) | (refine MC.la true (la_load1 hs rfl (by rfl)) rfl ?_) | (refine MC.part rfl rfl (fun h => absurd h (by first | decide | omega)) (fun _ => ?_)) | (refine MC.part rfl rfl (fun _ => ?_) (fun h => absurd (by first | decide | omega) h)) | (refine MC.cond rfl (fun h => absurd h (by first | decide | omega)) (fun _ => ?_)) | (refine MC.cond rfl (fun _ => ?_) (fun h => absurd (by first | decide | omega) h)))
      refine MC.ret rfl ?_
      exact ⟨rfl, hs⟩
  have h := u8i (k := 92) (Decidable.not_not.1 h)
  subst h
  have e : pieceL (92 :: t) = match escU t with | none => none | some (r, n) => some (r, n + 1) := by rfl
  rw [e]
  clear e
  cases t with
  | nil =>
    have e0 : escU [] = none := rfl
    rw [e0]
    have hu := unit_spec [92] hs (by decide)
    have eu : unitL [92] = -1 := by rw [unitL_if, if_pos (.inl (by decide))]
    rw [eu] at hu
    repeat (first | (refine MC.run1 tab 1000 rfl rfl (by first | exact True.intro | (simp only [Conds, rng, Int.toNat_natCast, List.length_append, bytesV_length] <;> omega) | (simp [Conds, rng] <;> omega) | (simp only [Conds, rng, wrap_u8, wrap_u16, wrap_u32, wrap_u64] <;> omega)) ?_) | (refine MC.la true (la_load1 hs rfl (by rfl)) rfl ?_) | (refine MC.part rfl rfl (fun h => absurd h (by first | decide | omega)) (fun _ => ?_)) | (refine MC.part rfl rfl (fun _ => ?_) (fun h => absurd (by first | decide | omega) h)) | (refine MC.cond rfl (fun h => absurd h (by first | decide | omega)) (fun _ => ?_)) | (refine MC.cond rfl (fun _ => ?_) (fun h => absurd (by first | decide | omega) h)))
    refine MC.does true (does_call rfl (hu)) rfl ?_
    rintro _ w ⟨rfl, rfl⟩
    repeat (first | (refine MC.run1 tab 1000 rfl rfl (by first | exact True.intro | (simp only [Conds, rng, Int.toNat_natCast, List.length_append, bytesV_length] <;> omega) | (simp [Conds, rng] <;> omega) | (simp only [Conds, rng, wrap_u8, wrap_u16, wrap_u32, wrap_u64] <;> omega)) ?_) | (refine MC.la true (la_load1 hs rfl (by rfl)) rfl ?_) | (refine MC.part rfl rfl (fun h => absurd h (by first | decide | omega)) (fun _ => ?_)) | (refine MC.part rfl rfl (fun _ => ?_) (fun h => absurd (by first | decide | omega) h)) | (refine MC.cond rfl (fun h => absurd h (by first | decide | omega)) (fun _ => ?_)) | (refine MC.cond rfl (fun _ => ?_) (fun h => absurd (by first | decide | omega) h)))
    refine MC.ret rfl ?_
    exact ⟨rfl, hs⟩
  | cons x u =>
    have hlen2 : (92 :: x :: u : Bs).length = u.length + 2 := rfl
    have hbx := UInt8.toNat_lt x
    have b1 : byteAt (92 :: x :: u) (1 : Int).toNat = (x.toNat : Int) := rfl
    repeat (first | (refine MC.run1 tab 1000 rfl rfl (by first | exact True.intro | (simp only [Conds, rng, Int.toNat_natCast, List.length_append, bytesV_length] <;> omega) | (simp [Conds, rng] <;> omega) | (simp only [Conds, rng, wrap_u8, wrap_u16, wrap_u32, wrap_u64] <;> omega)) ?_) | (refine MC.la true (la_load1 hs rfl (by rfl)) rfl ?_) | (refine MC.part rfl rfl (fun h => absurd h (by first | decide | omega)) (fun _ => ?_)) | (refine MC.part rfl rfl (fun _ => ?_) (fun h => absurd (by first | decide | omega) h)) | (refine MC.cond rfl (fun h => absurd h (by first | decide | omega)) (fun _ => ?_)) | (refine MC.cond rfl (fun _ => ?_) (fun h => absurd (by first | decide | omega) h)))
    refine MC.pure (f := true) (po_arr (ls := [(0, [int 34]), (1, [int 92]), (2, [int 47]), (3, [int 8]), (4, [int 12]), (5, [int 10]), (6, [int 13]), (7, [int 9])]) (out := [int 34, int 92, int 47, int 8, int 12, int 10, int 13, int 9]) rfl rfl ⟨⟨_, rfl, by simp⟩, ⟨_, rfl, by simp⟩, ⟨_, rfl, by simp⟩, ⟨_, rfl, by simp⟩, ⟨_, rfl, by simp⟩, ⟨_, rfl, by simp⟩, ⟨_, rfl, by simp⟩, ⟨_, rfl, by simp⟩, trivial⟩ rfl) rfl ?_
    refine MC.does true (does_alloc hs) rfl ?_; rintro _ w ⟨bt, rfl, hs⟩
    refine MC.does true (does_store (vs := [int 34, int 92, int 47, int 8, int 12, int 10, int 13, int 9]) hs rfl rfl rfl rfl (by first | (intro u hu; simp only [List.mem_cons, List.not_mem_nil, or_false] at hu; rcases hu with rfl | rfl | rfl | rfl | rfl | rfl | rfl | rfl <;> rfl) | (intro u hu; simp only [List.mem_cons, List.not_mem_nil, or_false] at hu; rcases hu with rfl | rfl | rfl | rfl <;> rfl) | (intro u hu; simp only [List.mem_cons, List.not_mem_nil, or_false] at hu; rcases hu with rfl | rfl <;> rfl) | (intro u hu; simp only [List.mem_cons, List.not_mem_nil, or_false] at hu; subst hu; rfl)) (by simp)) rfl ?_; intro _ w hs; rw [splice_all (by rfl)] at hs
    repeat (first | (refine MC.run1 tab 1000 rfl rfl (by first | exact True.intro | (simp only [Conds, rng, Int.toNat_natCast, List.length_append, bytesV_length] <;> omega) | (simp [Conds, rng] <;> omega) | (simp only [Conds, rng, wrap_u8, wrap_u16, wrap_u32, wrap_u64] <;> omega)) ?_) | (refine MC.la true (la_load1 hs rfl (by rfl)) rfl ?_) | (refine MC.part rfl rfl (fun h => absurd h (by first | decide | omega)) (fun _ => ?_)) | (refine MC.part rfl rfl (fun _ => ?_) (fun h => absurd (by first | decide | omega) h)) | (refine MC.cond rfl (fun h => absurd h (by first | decide | omega)) (fun _ => ?_)) | (refine MC.cond rfl (fun _ => ?_) (fun h => absurd (by first | decide | omega) h)))
    refine MC.loop (σ := Nat) (fun i => [(0, true, str (92 :: x :: u)), (6, true, str fromL), (7, true, ptr bt), (8, true, int ((i : Nat) : Int))])
      (fun i w => i ≤ 8 ∧ (∀ j, j < i → x ≠ fromL.getD j 0) ∧ Sat (blk bt [int 34, int 92, int 47, int 8, int 12, int 10, int 13, int 9] 53 :: F) w) (fun i => 8 - i) 0 (by repeat (first | exact trivial | refine ⟨rfl, ?_⟩)) ⟨by omega, fun j hj => absurd hj (by omega), hs⟩ ?_
    rintro i w ⟨hi, hall, hs⟩
    have hf8 : (fromL.length : Int) = 8 := rfl
    have hl8 : fromL.length = 8 := rfl
    have bf : byteAt fromL ((i : Nat) : Int).toNat = ((fromL.getD i 0).toNat : Int) := rfl
    repeat (first | (refine MC.run1 tab 1000 rfl rfl (by first | exact True.intro | (simp only [Conds, rng, Int.toNat_natCast, List.length_append, bytesV_length] <;> omega) | (simp [Conds, rng] <;> omega) | (simp only [Conds, rng, wrap_u8, wrap_u16, wrap_u32, wrap_u64] <;> omega)) ?_) | (refine MC.la true (la_load1 hs rfl (by rfl)) rfl ?_) | (refine MC.part rfl rfl (fun h => absurd h (by first | decide | omega)) (fun _ => ?_)) | (refine MC.part rfl rfl (fun _ => ?_) (fun h => absurd (by first | decide | omega) h)) | (refine MC.cond rfl (fun h => absurd h (by first | decide | omega)) (fun _ => ?_)) | (refine MC.cond rfl (fun _ => ?_) (fun h => absurd (by first | decide | omega) h)))
    refine MC.cond rfl (fun hlt => ?_) (fun hge => ?_)
    · have hlt : i < 8 := by omega
      have hcell : ([int 34, int 92, int 47, int 8, int 12, int 10, int 13, int 9] : List Value)[0 + ((i : Nat) : Int).toNat * 1]? = some (int (toL.getD i 0)) := by
        obtain rfl | rfl | rfl | rfl | rfl | rfl | rfl | rfl : i = 0 ∨ i = 1 ∨ i = 2 ∨ i = 3 ∨ i = 4 ∨ i = 5 ∨ i = 6 ∨ i = 7 := by omega
        all_goals rfl
      repeat (first | (refine MC.run1 tab 1000 rfl rfl (by first | exact True.intro | (simp only [Conds, rng, Int.toNat_natCast, List.length_append, bytesV_length] <;> omega) | (simp [Conds, rng] <;> omega) | (simp only [Conds, rng, wrap_u8, wrap_u16, wrap_u32, wrap_u64] <;> omega)) ?_) | (refine MC.la true (la_load1 hs rfl (by rfl)) rfl ?_) | (refine MC.part rfl rfl (fun h => absurd h (by first | decide | omega)) (fun _ => ?_)) | (refine MC.part rfl rfl (fun _ => ?_) (fun h => absurd (by first | decide | omega) h)) | (refine MC.cond rfl (fun h => absurd h (by first | decide | omega)) (fun _ => ?_)) | (refine MC.cond rfl (fun _ => ?_) (fun h => absurd (by first | decide | omega) h)))
      refine MC.draw hs [0,1,2,3,4,5] (by rfl) ?_; intro w hs
      refine MC.run1 tab 3 rfl rfl (by simp only [Conds]; omega) ?_
      repeat (first | (refine MC.run1 tab 1000 rfl rfl (by first | exact True.intro | (simp only [Conds, rng, Int.toNat_natCast, List.length_append, bytesV_length] <;> omega) | (simp [Conds, rng] <;> omega) | (simp only [Conds, rng, wrap_u8, wrap_u16, wrap_u32, wrap_u64] <;> omega)) ?_) | (refine MC.laD true (la_load1 hs rfl (by rfl)) rfl ?_) | (refine MC.part rfl rfl (fun h => absurd h (by first | decide | omega)) (fun _ => ?_)) | (refine MC.part rfl rfl (fun _ => ?_) (fun h => absurd (by first | decide | omega) h)) | (refine MC.cond rfl (fun h => absurd h (by first | decide | omega)) (fun _ => ?_)) | (refine MC.cond rfl (fun _ => ?_) (fun h => absurd (by first | decide | omega) h)))
      rw [bf, b1]
      refine MC.cond rfl (fun h => ?_) (fun h => ?_)
      · have hx : x = fromL.getD i 0 := UInt8.toNat_inj.1 (by omega)
        rw [hx, esc_at hlt u]
        repeat (first | (refine MC.run1 tab 1000 rfl rfl (by first | exact True.intro | (simp only [Conds, rng, Int.toNat_natCast, List.length_append, bytesV_length] <;> omega) | (simp [Conds, rng] <;> omega) | (simp only [Conds, rng, wrap_u8, wrap_u16, wrap_u32, wrap_u64] <;> omega)) ?_) | (refine MC.la true (la_load1 hs rfl (by rfl)) rfl ?_) | (refine MC.part rfl rfl (fun h => absurd h (by first | decide | omega)) (fun _ => ?_)) | (refine MC.part rfl rfl (fun _ => ?_) (fun h => absurd (by first | decide | omega) h)) | (refine MC.cond rfl (fun h => absurd h (by first | decide | omega)) (fun _ => ?_)) | (refine MC.cond rfl (fun _ => ?_) (fun h => absurd (by first | decide | omega) h)))
        refine MC.la true (la_load1 hs rfl hcell) rfl ?_
        repeat (first | (refine MC.run1 tab 1000 rfl rfl (by first | exact True.intro | (simp only [Conds, rng, Int.toNat_natCast, List.length_append, bytesV_length] <;> omega) | (simp [Conds, rng] <;> omega) | (simp only [Conds, rng, wrap_u8, wrap_u16, wrap_u32, wrap_u64] <;> omega)) ?_) | (refine MC.la true (la_load1 hs rfl (by rfl)) rfl ?_) | (refine MC.part rfl rfl (fun h => absurd h (by first | decide | omega)) (fun _ => ?_)) | (refine MC.part rfl rfl (fun _ => ?_) (fun h => absurd (by first | decide | omega) h)) | (refine MC.cond rfl (fun h => absurd h (by first | decide | omega)) (fun _ => ?_)) | (refine MC.cond rfl (fun _ => ?_) (fun h => absurd (by first | decide | omega) h)))
        refine MC.ret rfl ?_
        exact ⟨rfl, hs.tail⟩
      · have hx : x ≠ fromL.getD i 0 := fun e => h (by rw [e])
        repeat (first | (refine MC.run1 tab 1000 rfl rfl (by first | exact True.intro | (simp only [Conds, rng, Int.toNat_natCast, List.length_append, bytesV_length] <;> omega) | (simp [Conds, rng] <;> omega) | (simp only [Conds, rng, wrap_u8, wrap_u16, wrap_u32, wrap_u64] <;> omega)) ?_) | (refine MC.la true (la_load1 hs rfl (by rfl)) rfl ?_) | (refine MC.part rfl rfl (fun h => absurd h (by first | decide | omega)) (fun _ => ?_)) | (refine MC.part rfl rfl (fun _ => ?_) (fun h => absurd (by first | decide | omega) h)) | (refine MC.cond rfl (fun h => absurd h (by first | decide | omega)) (fun _ => ?_)) | (refine MC.cond rfl (fun _ => ?_) (fun h => absurd (by first | decide | omega) h)))
        refine MC.again (i + 1) (by repeat (first | exact trivial | refine ⟨rfl, ?_⟩)) ⟨by omega, fun j hj => ?_, hs⟩ (by omega)
        rcases Nat.lt_or_ge j i with h' | h'
        · exact hall j h'
        · obtain rfl : j = i := by omega
          exact hx
    · obtain rfl : i = 8 := by omega
      rw [esc_none u hall]
      have hu := unit_spec (92 :: x :: u) hs.tail hl
      by_cases hx : x = 117
      · subst hx
        rw [if_pos rfl]
        rw [unitL_u] at hu
        cases h4 : hex4 u with
        | none =>
          have hun : uniU u = none := by unfold uniU; rw [h4]
          rw [hun]
          rw [h4] at hu
          repeat (first | (refine MC.run1 tab 1000 rfl rfl (by first | exact True.intro | (simp only [Conds, rng, Int.toNat_natCast, List.length_append, bytesV_length] <;> omega) | (simp [Conds, rng] <;> omega) | (simp only [Conds, rng, wrap_u8, wrap_u16, wrap_u32, wrap_u64] <;> omega)) ?_) | (refine MC.la true (la_load1 hs rfl (by rfl)) rfl ?_) | (refine MC.part rfl rfl (fun h => absurd h (by first | decide | omega)) (fun _ => ?_)) | (refine MC.part rfl rfl (fun _ => ?_) (fun h => absurd (by first | decide | omega) h)) | (refine MC.cond rfl (fun h => absurd h (by first | decide | omega)) (fun _ => ?_)) | (refine MC.cond rfl (fun _ => ?_) (fun h => absurd (by first | decide | omega) h)))
          refine MC.does true (does_call rfl (hu)) rfl ?_
          rintro _ w ⟨rfl, rfl⟩
          repeat (first | (refine MC.run1 tab 1000 rfl rfl (by first | exact True.intro | (simp only [Conds, rng, Int.toNat_natCast, List.length_append, bytesV_length] <;> omega) | (simp [Conds, rng] <;> omega) | (simp only [Conds, rng, wrap_u8, wrap_u16, wrap_u32, wrap_u64] <;> omega)) ?_) | (refine MC.la true (la_load1 hs rfl (by rfl)) rfl ?_) | (refine MC.part rfl rfl (fun h => absurd h (by first | decide | omega)) (fun _ => ?_)) | (refine MC.part rfl rfl (fun _ => ?_) (fun h => absurd (by first | decide | omega) h)) | (refine MC.cond rfl (fun h => absurd h (by first | decide | omega)) (fun _ => ?_)) | (refine MC.cond rfl (fun _ => ?_) (fun h => absurd (by first | decide | omega) h)))
          refine MC.ret rfl ?_
          exact ⟨rfl, hs.tail⟩
        | some a =>
          obtain ⟨ha, hul⟩ := hex4_bd h4
          rw [h4] at hu
          dsimp only [digV] at hu
          rw [uni_unit h4]
          repeat (first | (refine MC.run1 tab 1000 rfl rfl (by first | exact True.intro | (simp only [Conds, rng, Int.toNat_natCast, List.length_append, bytesV_length] <;> omega) | (simp [Conds, rng] <;> omega) | (simp only [Conds, rng, wrap_u8, wrap_u16, wrap_u32, wrap_u64] <;> omega)) ?_) | (refine MC.la true (la_load1 hs rfl (by rfl)) rfl ?_) | (refine MC.part rfl rfl (fun h => absurd h (by first | decide | omega)) (fun _ => ?_)) | (refine MC.part rfl rfl (fun _ => ?_) (fun h => absurd (by first | decide | omega) h)) | (refine MC.cond rfl (fun h => absurd h (by first | decide | omega)) (fun _ => ?_)) | (refine MC.cond rfl (fun _ => ?_) (fun h => absurd (by first | decide | omega) h)))
          refine MC.does true (does_call rfl (hu)) rfl ?_
          rintro _ w ⟨rfl, rfl⟩
          by_cases h1 : 56320 ≤ a ∧ a < 57344
          · rw [if_pos h1]
            repeat (first | (refine MC.run1 tab 1000 rfl rfl (by first | exact True.intro | (simp only [Conds, rng, Int.toNat_natCast, List.length_append, bytesV_length] <;> omega) | (simp [Conds, rng] <;> omega) | (simp only [Conds, rng, wrap_u8, wrap_u16, wrap_u32, wrap_u64] <;> omega)) ?_) | (refine MC.la true (la_load1 hs rfl (by rfl)) rfl ?_) | (refine MC.part rfl rfl (fun h => absurd h (by first | decide | omega)) (fun _ => ?_)) | (refine MC.part rfl rfl (fun _ => ?_) (fun h => absurd (by first | decide | omega) h)) | (refine MC.cond rfl (fun h => absurd h (by first | decide | omega)) (fun _ => ?_)) | (refine MC.cond rfl (fun _ => ?_) (fun h => absurd (by first | decide | omega) h)))
            refine MC.ret rfl ?_
            exact ⟨rfl, hs.tail⟩
          rw [if_neg h1]
          by_cases h2 : a < 55296 ∨ 57344 ≤ a
          · rw [if_pos h2]
            rcases h2 with h2 | h2
            · repeat (first | (refine MC.run1 tab 1000 rfl rfl (by first | exact True.intro | (simp only [Conds, rng, Int.toNat_natCast, List.length_append, bytesV_length] <;> omega) | (simp [Conds, rng] <;> omega) | (simp only [Conds, rng, wrap_u8, wrap_u16, wrap_u32, wrap_u64] <;> omega)) ?_) | (refine MC.la true (la_load1 hs rfl (by rfl)) rfl ?_) | (refine MC.part rfl rfl (fun h => absurd h (by first | decide | omega)) (fun _ => ?_)) | (refine MC.part rfl rfl (fun _ => ?_) (fun h => absurd (by first | decide | omega) h)) | (refine MC.cond rfl (fun h => absurd h (by first | decide | omega)) (fun _ => ?_)) | (refine MC.cond rfl (fun _ => ?_) (fun h => absurd (by first | decide | omega) h)))
              refine MC.ret rfl ?_
              exact ⟨rfl, hs.tail⟩
            · repeat (first | (refine MC.run1 tab 1000 rfl rfl (by first | exact True.intro | (simp only [Conds, rng, Int.toNat_natCast, List.length_append, bytesV_length] <;> omega) | (simp [Conds, rng] <;> omega) | (simp only [Conds, rng, wrap_u8, wrap_u16, wrap_u32, wrap_u64] <;> omega)) ?_) | (refine MC.la true (la_load1 hs rfl (by rfl)) rfl ?_) | (refine MC.part rfl rfl (fun h => absurd h (by first | decide | omega)) (fun _ => ?_)) | (refine MC.part rfl rfl (fun _ => ?_) (fun h => absurd (by first | decide | omega) h)) | (refine MC.cond rfl (fun h => absurd h (by first | decide | omega)) (fun _ => ?_)) | (refine MC.cond rfl (fun _ => ?_) (fun h => absurd (by first | decide | omega) h)))
              refine MC.ret rfl ?_
              exact ⟨rfl, hs.tail⟩
          rw [if_neg h2]
          have e6 : (92 :: 117 :: u : Bs).drop 6 = u.drop 4 := rfl
          have hu2 := unit_spec (u.drop 4) hs.tail (by rw [List.length_drop]; omega)
          obtain ⟨z, hz⟩ : ∃ z, unitL (u.drop 4) = z := ⟨_, rfl⟩
          have hzb : -1 ≤ z ∧ z < 65536 := by
            rw [← hz, unitL_if]
            split
            · omega
            · cases h7 : hex4 ((u.drop 4).drop 2) with
              | none => exact ⟨by decide, by decide⟩
              | some b =>
                have := (hex4_bd h7).1
                exact ⟨by show -1 ≤ (b : Int); omega, by show (b : Int) < 65536; omega⟩
          rw [hz] at hu2 ⊢
          repeat (first | (refine MC.run1 tab 1000 rfl rfl (by first | exact True.intro | (simp only [Conds, rng, Int.toNat_natCast, List.length_append, bytesV_length] <;> omega) | (simp [Conds, rng] <;> omega) | (simp only [Conds, rng, wrap_u8, wrap_u16, wrap_u32, wrap_u64] <;> omega)) ?_) | (refine MC.la true (la_load1 hs rfl (by rfl)) rfl ?_) | (refine MC.part rfl rfl (fun h => absurd h (by first | decide | omega)) (fun _ => ?_)) | (refine MC.part rfl rfl (fun _ => ?_) (fun h => absurd (by first | decide | omega) h)) | (refine MC.cond rfl (fun h => absurd h (by first | decide | omega)) (fun _ => ?_)) | (refine MC.cond rfl (fun _ => ?_) (fun h => absurd (by first | decide | omega) h)))
          have e6' : (92 :: 117 :: u : Bs).drop (6 : Int).toNat = u.drop 4 := rfl
          rw [e6']
          refine MC.does true (does_call rfl (hu2)) rfl ?_
          rintro _ w ⟨rfl, rfl⟩
          repeat (first | (refine MC.run1 tab 1000 rfl rfl (by first | exact True.intro | (simp only [Conds, rng, Int.toNat_natCast, List.length_append, bytesV_length] <;> omega) | (simp [Conds, rng] <;> omega) | (simp only [Conds, rng, wrap_u8, wrap_u16, wrap_u32, wrap_u64] <;> omega)) ?_) | (refine MC.la true (la_load1 hs rfl (by rfl)) rfl ?_) | (refine MC.part rfl rfl (fun h => absurd h (by first | decide | omega)) (fun _ => ?_)) | (refine MC.part rfl rfl (fun _ => ?_) (fun h => absurd (by first | decide | omega) h)) | (refine MC.cond rfl (fun h => absurd h (by first | decide | omega)) (fun _ => ?_)) | (refine MC.cond rfl (fun _ => ?_) (fun h => absurd (by first | decide | omega) h)))
          refine MC.part rfl rfl (fun h8 => ?_) (fun h8 => ?_)
          · rw [if_pos (.inl h8)]
            repeat (first | (refine MC.run1 tab 1000 rfl rfl (by first | exact True.intro | (simp only [Conds, rng, Int.toNat_natCast, List.length_append, bytesV_length] <;> omega) | (simp [Conds, rng] <;> omega) | (simp only [Conds, rng, wrap_u8, wrap_u16, wrap_u32, wrap_u64] <;> omega)) ?_) | (refine MC.la true (la_load1 hs rfl (by rfl)) rfl ?_) | (refine MC.part rfl rfl (fun h => absurd h (by first | decide | omega)) (fun _ => ?_)) | (refine MC.part rfl rfl (fun _ => ?_) (fun h => absurd (by first | decide | omega) h)) | (refine MC.cond rfl (fun h => absurd h (by first | decide | omega)) (fun _ => ?_)) | (refine MC.cond rfl (fun _ => ?_) (fun h => absurd (by first | decide | omega) h)))
            refine MC.ret rfl ?_
            exact ⟨rfl, hs.tail⟩
          repeat (first | (refine MC.run1 tab 1000 rfl rfl (by first | exact True.intro | (simp only [Conds, rng, Int.toNat_natCast, List.length_append, bytesV_length] <;> omega) | (simp [Conds, rng] <;> omega) | (simp only [Conds, rng, wrap_u8, wrap_u16, wrap_u32, wrap_u64] <;> omega)) ?_) | (refine MC.la true (la_load1 hs rfl (by rfl)) rfl ?_) | (refine MC.part rfl rfl (fun h => absurd h (by first | decide | omega)) (fun _ => ?_)) | (refine MC.part rfl rfl (fun _ => ?_) (fun h => absurd (by first | decide | omega) h)) | (refine MC.cond rfl (fun h => absurd h (by first | decide | omega)) (fun _ => ?_)) | (refine MC.cond rfl (fun _ => ?_) (fun h => absurd (by first | decide | omega) h)))
          refine MC.cond rfl (fun h9 => ?_) (fun h9 => ?_)
          · rw [if_pos (.inr h9)]
            repeat (first | (refine MC.run1 tab 1000 rfl rfl (by first | exact True.intro | (simp only [Conds, rng, Int.toNat_natCast, List.length_append, bytesV_length] <;> omega) | (simp [Conds, rng] <;> omega) | (simp only [Conds, rng, wrap_u8, wrap_u16, wrap_u32, wrap_u64] <;> omega)) ?_) | (refine MC.la true (la_load1 hs rfl (by rfl)) rfl ?_) | (refine MC.part rfl rfl (fun h => absurd h (by first | decide | omega)) (fun _ => ?_)) | (refine MC.part rfl rfl (fun _ => ?_) (fun h => absurd (by first | decide | omega) h)) | (refine MC.cond rfl (fun h => absurd h (by first | decide | omega)) (fun _ => ?_)) | (refine MC.cond rfl (fun _ => ?_) (fun h => absurd (by first | decide | omega) h)))
            refine MC.ret rfl ?_
            exact ⟨rfl, hs.tail⟩
          · rw [if_neg (by omega)]
            repeat (first | (refine MC.run1 tab 1000 rfl rfl (by first | exact True.intro | (simp only [Conds, rng, Int.toNat_natCast, List.length_append, bytesV_length] <;> omega) | (simp [Conds, rng] <;> omega) | (simp only [Conds, rng, wrap_u8, wrap_u16, wrap_u32, wrap_u64] <;> omega)) ?_) | (refine MC.la true (la_load1 hs rfl (by rfl)) rfl ?_) | (refine MC.part rfl rfl (fun h => absurd h (by first | decide | omega)) (fun _ => ?_)) | (refine MC.part rfl rfl (fun _ => ?_) (fun h => absurd (by first | decide | omega) h)) | (refine MC.cond rfl (fun h => absurd h (by first | decide | omega)) (fun _ => ?_)) | (refine MC.cond rfl (fun _ => ?_) (fun h => absurd (by first | decide | omega) h)))
            refine MC.ret rfl ?_
            refine ⟨?_, hs.tail⟩
            have e : (65536 + ((a : Int) - 55296) * 1024 + z - 56320) = 65536 + ((a : Int) - 55296) * 1024 + (z - 56320) := by omega
            show Value.tuple #[int _, int 12] = Value.tuple #[int _, int ((12 : Nat) : Int)]
            rw [e]; rfl
      · rw [if_neg hx]
        rw [unitL_no hx] at hu
        repeat (first | (refine MC.run1 tab 1000 rfl rfl (by first | exact True.intro | (simp only [Conds, rng, Int.toNat_natCast, List.length_append, bytesV_length] <;> omega) | (simp [Conds, rng] <;> omega) | (simp only [Conds, rng, wrap_u8, wrap_u16, wrap_u32, wrap_u64] <;> omega)) ?_) | (refine MC.la true (la_load1 hs rfl (by rfl)) rfl ?_) | (refine MC.part rfl rfl (fun h => absurd h (by first | decide | omega)) (fun _ => ?_)) | (refine MC.part rfl rfl (fun _ => ?_) (fun h => absurd (by first | decide | omega) h)) | (refine MC.cond rfl (fun h => absurd h (by first | decide | omega)) (fun _ => ?_)) | (refine MC.cond rfl (fun _ => ?_) (fun h => absurd (by first | decide | omega) h)))
        refine MC.does true (does_call rfl (hu)) rfl ?_
        rintro _ w ⟨rfl, rfl⟩
        repeat (first | (refine MC.run1 tab 1000 rfl rfl (by first | exact True.intro | (simp only [Conds, rng, Int.toNat_natCast, List.length_append, bytesV_length] <;> omega) | (simp [Conds, rng] <;> omega) | (simp only [Conds, rng, wrap_u8, wrap_u16, wrap_u32, wrap_u64] <;> omega)) ?_) | (refine MC.la true (la_load1 hs rfl (by rfl)) rfl ?_) | (refine MC.part rfl rfl (fun h => absurd h (by first | decide | omega)) (fun _ => ?_)) | (refine MC.part rfl rfl (fun _ => ?_) (fun h => absurd (by first | decide | omega) h)) | (refine MC.cond rfl (fun h => absurd h (by first | decide | omega)) (fun _ => ?_)) | (refine MC.cond rfl (fun _ => ?_) (fun h => absurd (by first | decide | omega) h)))
        refine MC.ret rfl ?_
        exact ⟨rfl, hs.tail⟩
end Go.Proofs.YtmloccinejhopaaDoor
