/- Tokens: signs; what is let by. -/
import Derived.Test.YtcahpllliflloaaKb
set_option linter.unusedVariables false
set_option linter.unusedSimpArgs false
namespace Go.Proofs.Ytcahpllliflloaa
open Go Go.Sl Go.Tk
attribute [local irreducible] LooksAt

theorem index_ge (l s : Bs) : -1 ≤ Lib.index l s := by
  induction l with
  | nil => unfold Lib.index; split <;> omega
  | cons x l ih =>
    unfold Lib.index
    split
    · omega
    · split <;> omega
theorem contains_nil (s : Bs) : Lib.contains [] s = s.isEmpty := by
  unfold Lib.contains Lib.index
  cases s <;> rfl
theorem contains_cons (x : UInt8) (l s : Bs) : Lib.contains (x :: l) s = (s.isPrefixOf (x :: l) || Lib.contains l s) := by
  unfold Lib.contains
  rw [Lib.index]
  have h := index_ge l s
  split
  · rename_i h1; rw [h1]; rfl
  · rename_i h1
    have h1 : s.isPrefixOf (x :: l) = false := by
      cases hh : s.isPrefixOf (x :: l) with
      | false => rfl
      | true => exact absurd hh h1
    rw [h1, Bool.false_or]
    split
    · rename_i h2
      have h2 : Lib.index l s = -1 := by simpa using h2
      first | (rw [h2]; done) | (rw [h2]; rfl)
    · rename_i h2
      have h2 : Lib.index l s ≠ -1 := by simpa using h2
      rw [Bool.eq_iff_iff, decide_eq_true_iff, decide_eq_true_iff]
      omega
def twosT : Bs := [32, 124, 61, 32, 43, 61, 32, 45, 61, 32, 42, 61, 32, 47, 61, 32, 61, 61, 32, 33, 61, 32, 60, 61, 32, 62, 61, 32, 47, 47, 32, 46, 46, 32]
theorem contains_two {a b : UInt8} (ha : a ≠ 32) (hb : b ≠ 32) : Lib.contains twosT ([32] ++ [a, b] ++ [32]) = decide ([a, b] ∈ twos) := by
  have ha' : (32 : UInt8) ≠ a := Ne.symm ha
  have hb' : (32 : UInt8) ≠ b := Ne.symm hb
  rw [Bool.eq_iff_iff]
  simp [twosT, twos, contains_cons, contains_nil, List.isPrefixOf, ha, hb]
theorem indexByte_ge (l : Bs) (c : UInt8) : -1 ≤ Lib.indexByte l c := by
  induction l with
  | nil => exact Int.le_refl _
  | cons x l ih =>
    unfold Lib.indexByte
    split
    · omega
    · split <;> omega
theorem indexByte_mem (l : Bs) (c : UInt8) : 0 ≤ Lib.indexByte l c ↔ c ∈ l := by
  induction l with
  | nil => exact ⟨fun h => absurd (show (0 : Int) ≤ -1 from h) (by decide), fun h => by cases h⟩
  | cons x l ih =>
    have h := indexByte_ge l c
    unfold Lib.indexByte
    split
    · rename_i h1
      have h1 : x = c := by simpa using h1
      subst h1
      simp
    · rename_i h1
      have h1 : ¬ x = c := by simpa using h1
      rw [List.mem_cons, ← ih]
      split
      · rename_i h2
        have h2 : Lib.indexByte l c = -1 := by simpa using h2
        rw [h2]
        constructor
        · intro h; omega
        · rintro (h | h)
          · exact absurd h.symm h1
          · omega
      · rename_i h2
        have h2 : Lib.indexByte l c ≠ -1 := by simpa using h2
        constructor
        · intro h3
          refine .inr ?_
          omega
        · rintro (h | h)
          · exact absurd h.symm h1
          · omega
def MaxC (F : List Assn) : Prop := ∀ w, Sat F w → ∃ m, w.cell? ⟨0, 0, none⟩ = some (.int .i64 m)
theorem MaxC.up {l F : List Assn} (h : MaxC F) [hs : Suf l F] : MaxC l := fun w hw => h w (Suf.sat hw)
theorem str_size (s : Bs) : (ByteArray.mk s.toArray).size = s.length := by simp [ByteArray.size]
theorem contains_spec {F : List Assn} {w : World} (s p : Bs) (hs : Sat F w) (hM : MaxC F) (hl : s.length ≤ 100000) : Ret Try.prog 34 [str s, str p] w fun v w' => v = bool (Lib.contains s p) ∧ w' = w := by
  obtain ⟨m, hm⟩ := hM w hs
  have hsz : (ByteArray.mk s.toArray).size < 4294967281 := by
    have := str_size s
    omega
  have h := Ret.of_same (args := [str s, str p]) (Try.strings_Contains ⟨s.toArray⟩ ⟨p.toArray⟩ m w hsz hm)
  rw [data_list, data_list] at h
  exact h
theorem indexByte_spec {w : World} (s : Bs) (c : UInt8) : Ret Try.prog 31 [str s, byte c] w fun v w' => v = int (Lib.indexByte s c) ∧ w' = w := by
  have h := Ret.of_same (args := [str s, byte c]) (Try.strings_IndexByte ⟨s.toArray⟩ (c.toNat : Int) w)
  rw [data_list] at h
  have e : ((c.toNat : Int).toNat.toUInt8) = c := by simp
  rw [e] at h
  exact h
theorem prefix3 (s : Bs) : Lib.hasPrefix s [47, 47, 61] = decide (s.take 3 = [47, 47, 61]) := by
  unfold Lib.hasPrefix
  rw [Bool.eq_iff_iff, decide_eq_true_iff, List.isPrefixOf_iff_prefix]
  constructor
  · rintro ⟨t, rfl⟩; rfl
  · intro h; exact ⟨s.drop 3, by rw [← h, List.take_append_drop]⟩
theorem sign_spec {F : List Assn} {w : World} (s : Bs) (hne : s ≠ []) (hs : Sat F w) (hM : MaxC F) (hl : s.length ≤ 140737488355328) :
    Ret Try.prog 27 [str s] w fun v w' => v = int ((signL s : Nat) : Int) ∧ w' = w := by
  have hp := prefix_spec (w := w) s [47, 47, 61]
  rw [prefix3] at hp
  refine Ret.enter [(true, str s)] _ Try.func27 rfl Try.ntmps27 rfl ?_
  by_cases h3 : s.take 3 = [47, 47, 61]
  · rw [decide_eq_true h3] at hp
    have e : signL s = 3 := by unfold signL; rw [if_pos h3]
    rw [e]
    repeat (first | (refine MC.run1 tab 1000 rfl rfl (by first | exact True.intro | (simp only [Conds, rng, Int.toNat_natCast, List.length_append, bytesV_length] <;> omega) | (simp [Conds, rng] <;> omega) | (simp only [Conds, rng, wrap_u8, wrap_u16, wrap_u32, wrap_u64] <;> omega)) ?_) | (refine MC.la true (la_load1 hs rfl (by rfl)) rfl ?_) | (refine MC.part rfl rfl (fun h => absurd h (by first | decide | omega)) (fun _ => ?_)) | (refine MC.part rfl rfl (fun _ => ?_) (fun h => absurd (by first | decide | omega) h)) | (refine MC.cond rfl (fun h => absurd h (by first | decide | omega)) (fun _ => ?_)) | (refine MC.cond rfl (fun _ => ?_) (fun h => absurd (by first | decide | omega) h)))
    refine MC.does true (does_call rfl (hp)) rfl ?_
    rintro _ w' ⟨rfl, rfl⟩
    repeat (first | (refine MC.run1 tab 1000 rfl rfl (by first | exact True.intro | (simp only [Conds, rng, Int.toNat_natCast, List.length_append, bytesV_length] <;> omega) | (simp [Conds, rng] <;> omega) | (simp only [Conds, rng, wrap_u8, wrap_u16, wrap_u32, wrap_u64] <;> omega)) ?_) | (refine MC.la true (la_load1 hs rfl (by rfl)) rfl ?_) | (refine MC.part rfl rfl (fun h => absurd h (by first | decide | omega)) (fun _ => ?_)) | (refine MC.part rfl rfl (fun _ => ?_) (fun h => absurd (by first | decide | omega) h)) | (refine MC.cond rfl (fun h => absurd h (by first | decide | omega)) (fun _ => ?_)) | (refine MC.cond rfl (fun _ => ?_) (fun h => absurd (by first | decide | omega) h)))
    refine MC.ret rfl ?_
    exact ⟨rfl, rfl⟩
  rw [decide_eq_false h3] at hp
  obtain ⟨c, t, rfl⟩ := List.exists_cons_of_ne_nil hne
  have hi := indexByte_spec (w := w) Tk.ones c
  have hcb := UInt8.toNat_lt c
  have b0 : byteAt (c :: t) (0 : Int).toNat = (c.toNat : Int) := rfl
  have hlen : (c :: t).length = t.length + 1 := rfl
  have e : signL (c :: t) = if (c :: t).take 2 ∈ twos then 2 else if c ∈ Tk.ones then 1 else 0 := by
    unfold signL; rw [if_neg h3]
  have him := indexByte_mem Tk.ones c
  have fin1 : ¬ ((c :: t).take 2 ∈ twos) → signL (c :: t) = if c ∈ Tk.ones then 1 else 0 := fun h => by rw [e, if_neg h]
  cases t with
  | nil =>
    rw [fin1 (by simp [twos])]
    have hl1 : ([c] : Bs).length = 1 := rfl
    repeat (first | (refine MC.run1 tab 1000 rfl rfl (by first | exact True.intro | (simp only [Conds, rng, Int.toNat_natCast, List.length_append, bytesV_length] <;> omega) | (simp [Conds, rng] <;> omega) | (simp only [Conds, rng, wrap_u8, wrap_u16, wrap_u32, wrap_u64] <;> omega)) ?_) | (refine MC.la true (la_load1 hs rfl (by rfl)) rfl ?_) | (refine MC.part rfl rfl (fun h => absurd h (by first | decide | omega)) (fun _ => ?_)) | (refine MC.part rfl rfl (fun _ => ?_) (fun h => absurd (by first | decide | omega) h)) | (refine MC.cond rfl (fun h => absurd h (by first | decide | omega)) (fun _ => ?_)) | (refine MC.cond rfl (fun _ => ?_) (fun h => absurd (by first | decide | omega) h)))
    refine MC.does true (does_call rfl (hp)) rfl ?_
    rintro _ w' ⟨rfl, rfl⟩
    have hi := indexByte_spec (w := w') Tk.ones c
    repeat (first | (refine MC.run1 tab 1000 rfl rfl (by first | exact True.intro | (simp only [Conds, rng, Int.toNat_natCast, List.length_append, bytesV_length] <;> omega) | (simp [Conds, rng] <;> omega) | (simp only [Conds, rng, wrap_u8, wrap_u16, wrap_u32, wrap_u64] <;> omega)) ?_) | (refine MC.la true (la_load1 hs rfl (by rfl)) rfl ?_) | (refine MC.part rfl rfl (fun h => absurd h (by first | decide | omega)) (fun _ => ?_)) | (refine MC.part rfl rfl (fun _ => ?_) (fun h => absurd (by first | decide | omega) h)) | (refine MC.cond rfl (fun h => absurd h (by first | decide | omega)) (fun _ => ?_)) | (refine MC.cond rfl (fun _ => ?_) (fun h => absurd (by first | decide | omega) h)))
    try rw [b0]
    refine MC.does true (does_call rfl (hi)) rfl ?_
    rintro _ w' ⟨rfl, rfl⟩
    repeat (first | (refine MC.run1 tab 1000 rfl rfl (by first | exact True.intro | (simp only [Conds, rng, Int.toNat_natCast, List.length_append, bytesV_length] <;> omega) | (simp [Conds, rng] <;> omega) | (simp only [Conds, rng, wrap_u8, wrap_u16, wrap_u32, wrap_u64] <;> omega)) ?_) | (refine MC.la true (la_load1 hs rfl (by rfl)) rfl ?_) | (refine MC.part rfl rfl (fun h => absurd h (by first | decide | omega)) (fun _ => ?_)) | (refine MC.part rfl rfl (fun _ => ?_) (fun h => absurd (by first | decide | omega) h)) | (refine MC.cond rfl (fun h => absurd h (by first | decide | omega)) (fun _ => ?_)) | (refine MC.cond rfl (fun _ => ?_) (fun h => absurd (by first | decide | omega) h)))
    refine MC.cond rfl (fun h => ?_) (fun h => ?_)
    · rw [if_pos (him.1 h)]
      repeat (first | (refine MC.run1 tab 1000 rfl rfl (by first | exact True.intro | (simp only [Conds, rng, Int.toNat_natCast, List.length_append, bytesV_length] <;> omega) | (simp [Conds, rng] <;> omega) | (simp only [Conds, rng, wrap_u8, wrap_u16, wrap_u32, wrap_u64] <;> omega)) ?_) | (refine MC.la true (la_load1 hs rfl (by rfl)) rfl ?_) | (refine MC.part rfl rfl (fun h => absurd h (by first | decide | omega)) (fun _ => ?_)) | (refine MC.part rfl rfl (fun _ => ?_) (fun h => absurd (by first | decide | omega) h)) | (refine MC.cond rfl (fun h => absurd h (by first | decide | omega)) (fun _ => ?_)) | (refine MC.cond rfl (fun _ => ?_) (fun h => absurd (by first | decide | omega) h)))
      refine MC.ret rfl ?_
      exact ⟨rfl, rfl⟩
    · rw [if_neg (fun h' => h (him.2 h'))]
      repeat (first | (refine MC.run1 tab 1000 rfl rfl (by first | exact True.intro | (simp only [Conds, rng, Int.toNat_natCast, List.length_append, bytesV_length] <;> omega) | (simp [Conds, rng] <;> omega) | (simp only [Conds, rng, wrap_u8, wrap_u16, wrap_u32, wrap_u64] <;> omega)) ?_) | (refine MC.la true (la_load1 hs rfl (by rfl)) rfl ?_) | (refine MC.part rfl rfl (fun h => absurd h (by first | decide | omega)) (fun _ => ?_)) | (refine MC.part rfl rfl (fun _ => ?_) (fun h => absurd (by first | decide | omega) h)) | (refine MC.cond rfl (fun h => absurd h (by first | decide | omega)) (fun _ => ?_)) | (refine MC.cond rfl (fun _ => ?_) (fun h => absurd (by first | decide | omega) h)))
      refine MC.ret rfl ?_
      exact ⟨rfl, rfl⟩
  | cons d u =>
    have hdb := UInt8.toNat_lt d
    have b1 : byteAt (c :: d :: u) (1 : Int).toNat = (d.toNat : Int) := rfl
    have hlen2 : (c :: d :: u).length = u.length + 2 := rfl
    have ht2 : (c :: d :: u).take (2 : Int).toNat = [c, d] := rfl
    have ht2' : (c :: d :: u).take 2 = [c, d] := rfl
    rw [ht2'] at e fin1
    repeat (first | (refine MC.run1 tab 1000 rfl rfl (by first | exact True.intro | (simp only [Conds, rng, Int.toNat_natCast, List.length_append, bytesV_length] <;> omega) | (simp [Conds, rng] <;> omega) | (simp only [Conds, rng, wrap_u8, wrap_u16, wrap_u32, wrap_u64] <;> omega)) ?_) | (refine MC.la true (la_load1 hs rfl (by rfl)) rfl ?_) | (refine MC.part rfl rfl (fun h => absurd h (by first | decide | omega)) (fun _ => ?_)) | (refine MC.part rfl rfl (fun _ => ?_) (fun h => absurd (by first | decide | omega) h)) | (refine MC.cond rfl (fun h => absurd h (by first | decide | omega)) (fun _ => ?_)) | (refine MC.cond rfl (fun _ => ?_) (fun h => absurd (by first | decide | omega) h)))
    refine MC.does true (does_call rfl (hp)) rfl ?_
    rintro _ w' ⟨rfl, rfl⟩
    have hc2 := contains_spec twosT ([32] ++ [c, d] ++ [32]) hs hM (by decide)
    have hi := indexByte_spec (w := w') Tk.ones c
    repeat (first | (refine MC.run1 tab 1000 rfl rfl (by first | exact True.intro | (simp only [Conds, rng, Int.toNat_natCast, List.length_append, bytesV_length] <;> omega) | (simp [Conds, rng] <;> omega) | (simp only [Conds, rng, wrap_u8, wrap_u16, wrap_u32, wrap_u64] <;> omega)) ?_) | (refine MC.la true (la_load1 hs rfl (by rfl)) rfl ?_) | (refine MC.part rfl rfl (fun h => absurd h (by first | decide | omega)) (fun _ => ?_)) | (refine MC.part rfl rfl (fun _ => ?_) (fun h => absurd (by first | decide | omega) h)) | (refine MC.cond rfl (fun h => absurd h (by first | decide | omega)) (fun _ => ?_)) | (refine MC.cond rfl (fun _ => ?_) (fun h => absurd (by first | decide | omega) h)))
    rw [ht2]
    obtain ⟨B, hB⟩ : ∃ B, Lib.contains twosT ([32] ++ [c, d] ++ [32]) = B := ⟨_, rfl⟩
    rw [hB] at hc2
    have no32 : c = 32 ∨ d = 32 → ¬ [c, d] ∈ twos := by
      rintro (h | h) <;> subst h <;> simp [twos]
    have nf : B = false → ¬ [c, d] ∈ twos := by
      intro hBf
      by_cases h : c = 32 ∨ d = 32
      · exact no32 h
      · rw [contains_two (fun e => h (.inl e)) (fun e => h (.inr e)), hBf] at hB
        exact of_decide_eq_false hB
    cases B with
    | false =>
      rw [fin1 (nf rfl)]
      refine MC.does true (does_call rfl (hc2)) rfl ?_
      rintro _ w'' ⟨rfl, rfl⟩
      repeat (first | (refine MC.run1 tab 1000 rfl rfl (by first | exact True.intro | (simp only [Conds, rng, Int.toNat_natCast, List.length_append, bytesV_length] <;> omega) | (simp [Conds, rng] <;> omega) | (simp only [Conds, rng, wrap_u8, wrap_u16, wrap_u32, wrap_u64] <;> omega)) ?_) | (refine MC.la true (la_load1 hs rfl (by rfl)) rfl ?_) | (refine MC.part rfl rfl (fun h => absurd h (by first | decide | omega)) (fun _ => ?_)) | (refine MC.part rfl rfl (fun _ => ?_) (fun h => absurd (by first | decide | omega) h)) | (refine MC.cond rfl (fun h => absurd h (by first | decide | omega)) (fun _ => ?_)) | (refine MC.cond rfl (fun _ => ?_) (fun h => absurd (by first | decide | omega) h)))
      try rw [b0]
      refine MC.does true (does_call rfl (hi)) rfl ?_
      rintro _ w'' ⟨rfl, rfl⟩
      repeat (first | (refine MC.run1 tab 1000 rfl rfl (by first | exact True.intro | (simp only [Conds, rng, Int.toNat_natCast, List.length_append, bytesV_length] <;> omega) | (simp [Conds, rng] <;> omega) | (simp only [Conds, rng, wrap_u8, wrap_u16, wrap_u32, wrap_u64] <;> omega)) ?_) | (refine MC.la true (la_load1 hs rfl (by rfl)) rfl ?_) | (refine MC.part rfl rfl (fun h => absurd h (by first | decide | omega)) (fun _ => ?_)) | (refine MC.part rfl rfl (fun _ => ?_) (fun h => absurd (by first | decide | omega) h)) | (refine MC.cond rfl (fun h => absurd h (by first | decide | omega)) (fun _ => ?_)) | (refine MC.cond rfl (fun _ => ?_) (fun h => absurd (by first | decide | omega) h)))
      refine MC.cond rfl (fun h => ?_) (fun h => ?_)
      · rw [if_pos (him.1 h)]
        repeat (first | (refine MC.run1 tab 1000 rfl rfl (by first | exact True.intro | (simp only [Conds, rng, Int.toNat_natCast, List.length_append, bytesV_length] <;> omega) | (simp [Conds, rng] <;> omega) | (simp only [Conds, rng, wrap_u8, wrap_u16, wrap_u32, wrap_u64] <;> omega)) ?_) | (refine MC.la true (la_load1 hs rfl (by rfl)) rfl ?_) | (refine MC.part rfl rfl (fun h => absurd h (by first | decide | omega)) (fun _ => ?_)) | (refine MC.part rfl rfl (fun _ => ?_) (fun h => absurd (by first | decide | omega) h)) | (refine MC.cond rfl (fun h => absurd h (by first | decide | omega)) (fun _ => ?_)) | (refine MC.cond rfl (fun _ => ?_) (fun h => absurd (by first | decide | omega) h)))
        refine MC.ret rfl ?_
        exact ⟨rfl, rfl⟩
      · rw [if_neg (fun h' => h (him.2 h'))]
        repeat (first | (refine MC.run1 tab 1000 rfl rfl (by first | exact True.intro | (simp only [Conds, rng, Int.toNat_natCast, List.length_append, bytesV_length] <;> omega) | (simp [Conds, rng] <;> omega) | (simp only [Conds, rng, wrap_u8, wrap_u16, wrap_u32, wrap_u64] <;> omega)) ?_) | (refine MC.la true (la_load1 hs rfl (by rfl)) rfl ?_) | (refine MC.part rfl rfl (fun h => absurd h (by first | decide | omega)) (fun _ => ?_)) | (refine MC.part rfl rfl (fun _ => ?_) (fun h => absurd (by first | decide | omega) h)) | (refine MC.cond rfl (fun h => absurd h (by first | decide | omega)) (fun _ => ?_)) | (refine MC.cond rfl (fun _ => ?_) (fun h => absurd (by first | decide | omega) h)))
        refine MC.ret rfl ?_
        exact ⟨rfl, rfl⟩
    | true =>
      by_cases hc32 : c = 32
      · rw [fin1 (no32 (.inl hc32))]
        have hc' : (c.toNat : Int) = 32 := by rw [hc32]; rfl
        refine MC.does true (does_call rfl (hc2)) rfl ?_
        rintro _ w'' ⟨rfl, rfl⟩
        repeat (first | (refine MC.run1 tab 1000 rfl rfl (by first | exact True.intro | (simp only [Conds, rng, Int.toNat_natCast, List.length_append, bytesV_length] <;> omega) | (simp [Conds, rng] <;> omega) | (simp only [Conds, rng, wrap_u8, wrap_u16, wrap_u32, wrap_u64] <;> omega)) ?_) | (refine MC.la true (la_load1 hs rfl (by rfl)) rfl ?_) | (refine MC.part rfl rfl (fun h => absurd h (by first | decide | omega)) (fun _ => ?_)) | (refine MC.part rfl rfl (fun _ => ?_) (fun h => absurd (by first | decide | omega) h)) | (refine MC.cond rfl (fun h => absurd h (by first | decide | omega)) (fun _ => ?_)) | (refine MC.cond rfl (fun _ => ?_) (fun h => absurd (by first | decide | omega) h)))
        try rw [b0]
        repeat (first | (refine MC.run1 tab 1000 rfl rfl (by first | exact True.intro | (simp only [Conds, rng, Int.toNat_natCast, List.length_append, bytesV_length] <;> omega) | (simp [Conds, rng] <;> omega) | (simp only [Conds, rng, wrap_u8, wrap_u16, wrap_u32, wrap_u64] <;> omega)) ?_) | (refine MC.la true (la_load1 hs rfl (by rfl)) rfl ?_) | (refine MC.part rfl rfl (fun h => absurd h (by first | decide | omega)) (fun _ => ?_)) | (refine MC.part rfl rfl (fun _ => ?_) (fun h => absurd (by first | decide | omega) h)) | (refine MC.cond rfl (fun h => absurd h (by first | decide | omega)) (fun _ => ?_)) | (refine MC.cond rfl (fun _ => ?_) (fun h => absurd (by first | decide | omega) h)))
        try rw [b0]
        refine MC.does true (does_call rfl (hi)) rfl ?_
        rintro _ w'' ⟨rfl, rfl⟩
        repeat (first | (refine MC.run1 tab 1000 rfl rfl (by first | exact True.intro | (simp only [Conds, rng, Int.toNat_natCast, List.length_append, bytesV_length] <;> omega) | (simp [Conds, rng] <;> omega) | (simp only [Conds, rng, wrap_u8, wrap_u16, wrap_u32, wrap_u64] <;> omega)) ?_) | (refine MC.la true (la_load1 hs rfl (by rfl)) rfl ?_) | (refine MC.part rfl rfl (fun h => absurd h (by first | decide | omega)) (fun _ => ?_)) | (refine MC.part rfl rfl (fun _ => ?_) (fun h => absurd (by first | decide | omega) h)) | (refine MC.cond rfl (fun h => absurd h (by first | decide | omega)) (fun _ => ?_)) | (refine MC.cond rfl (fun _ => ?_) (fun h => absurd (by first | decide | omega) h)))
        refine MC.cond rfl (fun h => ?_) (fun h => ?_)
        · rw [if_pos (him.1 h)]
          repeat (first | (refine MC.run1 tab 1000 rfl rfl (by first | exact True.intro | (simp only [Conds, rng, Int.toNat_natCast, List.length_append, bytesV_length] <;> omega) | (simp [Conds, rng] <;> omega) | (simp only [Conds, rng, wrap_u8, wrap_u16, wrap_u32, wrap_u64] <;> omega)) ?_) | (refine MC.la true (la_load1 hs rfl (by rfl)) rfl ?_) | (refine MC.part rfl rfl (fun h => absurd h (by first | decide | omega)) (fun _ => ?_)) | (refine MC.part rfl rfl (fun _ => ?_) (fun h => absurd (by first | decide | omega) h)) | (refine MC.cond rfl (fun h => absurd h (by first | decide | omega)) (fun _ => ?_)) | (refine MC.cond rfl (fun _ => ?_) (fun h => absurd (by first | decide | omega) h)))
          refine MC.ret rfl ?_
          exact ⟨rfl, rfl⟩
        · rw [if_neg (fun h' => h (him.2 h'))]
          repeat (first | (refine MC.run1 tab 1000 rfl rfl (by first | exact True.intro | (simp only [Conds, rng, Int.toNat_natCast, List.length_append, bytesV_length] <;> omega) | (simp [Conds, rng] <;> omega) | (simp only [Conds, rng, wrap_u8, wrap_u16, wrap_u32, wrap_u64] <;> omega)) ?_) | (refine MC.la true (la_load1 hs rfl (by rfl)) rfl ?_) | (refine MC.part rfl rfl (fun h => absurd h (by first | decide | omega)) (fun _ => ?_)) | (refine MC.part rfl rfl (fun _ => ?_) (fun h => absurd (by first | decide | omega) h)) | (refine MC.cond rfl (fun h => absurd h (by first | decide | omega)) (fun _ => ?_)) | (refine MC.cond rfl (fun _ => ?_) (fun h => absurd (by first | decide | omega) h)))
          refine MC.ret rfl ?_
          exact ⟨rfl, rfl⟩
      have hc' : (c.toNat : Int) ≠ 32 := fun e => hc32 (u8i (k := 32) e)
      by_cases hd32 : d = 32
      · rw [fin1 (no32 (.inr hd32))]
        have hd' : (d.toNat : Int) = 32 := by rw [hd32]; rfl
        refine MC.does true (does_call rfl (hc2)) rfl ?_
        rintro _ w'' ⟨rfl, rfl⟩
        repeat (first | (refine MC.run1 tab 1000 rfl rfl (by first | exact True.intro | (simp only [Conds, rng, Int.toNat_natCast, List.length_append, bytesV_length] <;> omega) | (simp [Conds, rng] <;> omega) | (simp only [Conds, rng, wrap_u8, wrap_u16, wrap_u32, wrap_u64] <;> omega)) ?_) | (refine MC.la true (la_load1 hs rfl (by rfl)) rfl ?_) | (refine MC.part rfl rfl (fun h => absurd h (by first | decide | omega)) (fun _ => ?_)) | (refine MC.part rfl rfl (fun _ => ?_) (fun h => absurd (by first | decide | omega) h)) | (refine MC.cond rfl (fun h => absurd h (by first | decide | omega)) (fun _ => ?_)) | (refine MC.cond rfl (fun _ => ?_) (fun h => absurd (by first | decide | omega) h)))
        try rw [b0]
        repeat (first | (refine MC.run1 tab 1000 rfl rfl (by first | exact True.intro | (simp only [Conds, rng, Int.toNat_natCast, List.length_append, bytesV_length] <;> omega) | (simp [Conds, rng] <;> omega) | (simp only [Conds, rng, wrap_u8, wrap_u16, wrap_u32, wrap_u64] <;> omega)) ?_) | (refine MC.la true (la_load1 hs rfl (by rfl)) rfl ?_) | (refine MC.part rfl rfl (fun h => absurd h (by first | decide | omega)) (fun _ => ?_)) | (refine MC.part rfl rfl (fun _ => ?_) (fun h => absurd (by first | decide | omega) h)) | (refine MC.cond rfl (fun h => absurd h (by first | decide | omega)) (fun _ => ?_)) | (refine MC.cond rfl (fun _ => ?_) (fun h => absurd (by first | decide | omega) h)))
        try rw [b1]
        repeat (first | (refine MC.run1 tab 1000 rfl rfl (by first | exact True.intro | (simp only [Conds, rng, Int.toNat_natCast, List.length_append, bytesV_length] <;> omega) | (simp [Conds, rng] <;> omega) | (simp only [Conds, rng, wrap_u8, wrap_u16, wrap_u32, wrap_u64] <;> omega)) ?_) | (refine MC.la true (la_load1 hs rfl (by rfl)) rfl ?_) | (refine MC.part rfl rfl (fun h => absurd h (by first | decide | omega)) (fun _ => ?_)) | (refine MC.part rfl rfl (fun _ => ?_) (fun h => absurd (by first | decide | omega) h)) | (refine MC.cond rfl (fun h => absurd h (by first | decide | omega)) (fun _ => ?_)) | (refine MC.cond rfl (fun _ => ?_) (fun h => absurd (by first | decide | omega) h)))
        try rw [b0]
        refine MC.does true (does_call rfl (hi)) rfl ?_
        rintro _ w'' ⟨rfl, rfl⟩
        repeat (first | (refine MC.run1 tab 1000 rfl rfl (by first | exact True.intro | (simp only [Conds, rng, Int.toNat_natCast, List.length_append, bytesV_length] <;> omega) | (simp [Conds, rng] <;> omega) | (simp only [Conds, rng, wrap_u8, wrap_u16, wrap_u32, wrap_u64] <;> omega)) ?_) | (refine MC.la true (la_load1 hs rfl (by rfl)) rfl ?_) | (refine MC.part rfl rfl (fun h => absurd h (by first | decide | omega)) (fun _ => ?_)) | (refine MC.part rfl rfl (fun _ => ?_) (fun h => absurd (by first | decide | omega) h)) | (refine MC.cond rfl (fun h => absurd h (by first | decide | omega)) (fun _ => ?_)) | (refine MC.cond rfl (fun _ => ?_) (fun h => absurd (by first | decide | omega) h)))
        refine MC.cond rfl (fun h => ?_) (fun h => ?_)
        · rw [if_pos (him.1 h)]
          repeat (first | (refine MC.run1 tab 1000 rfl rfl (by first | exact True.intro | (simp only [Conds, rng, Int.toNat_natCast, List.length_append, bytesV_length] <;> omega) | (simp [Conds, rng] <;> omega) | (simp only [Conds, rng, wrap_u8, wrap_u16, wrap_u32, wrap_u64] <;> omega)) ?_) | (refine MC.la true (la_load1 hs rfl (by rfl)) rfl ?_) | (refine MC.part rfl rfl (fun h => absurd h (by first | decide | omega)) (fun _ => ?_)) | (refine MC.part rfl rfl (fun _ => ?_) (fun h => absurd (by first | decide | omega) h)) | (refine MC.cond rfl (fun h => absurd h (by first | decide | omega)) (fun _ => ?_)) | (refine MC.cond rfl (fun _ => ?_) (fun h => absurd (by first | decide | omega) h)))
          refine MC.ret rfl ?_
          exact ⟨rfl, rfl⟩
        · rw [if_neg (fun h' => h (him.2 h'))]
          repeat (first | (refine MC.run1 tab 1000 rfl rfl (by first | exact True.intro | (simp only [Conds, rng, Int.toNat_natCast, List.length_append, bytesV_length] <;> omega) | (simp [Conds, rng] <;> omega) | (simp only [Conds, rng, wrap_u8, wrap_u16, wrap_u32, wrap_u64] <;> omega)) ?_) | (refine MC.la true (la_load1 hs rfl (by rfl)) rfl ?_) | (refine MC.part rfl rfl (fun h => absurd h (by first | decide | omega)) (fun _ => ?_)) | (refine MC.part rfl rfl (fun _ => ?_) (fun h => absurd (by first | decide | omega) h)) | (refine MC.cond rfl (fun h => absurd h (by first | decide | omega)) (fun _ => ?_)) | (refine MC.cond rfl (fun _ => ?_) (fun h => absurd (by first | decide | omega) h)))
          refine MC.ret rfl ?_
          exact ⟨rfl, rfl⟩
      have hd' : (d.toNat : Int) ≠ 32 := fun e => hd32 (u8i (k := 32) e)
      rw [contains_two hc32 hd32] at hB
      rw [e, if_pos (of_decide_eq_true hB)]
      refine MC.does true (does_call rfl (hc2)) rfl ?_
      rintro _ w'' ⟨rfl, rfl⟩
      repeat (first | (refine MC.run1 tab 1000 rfl rfl (by first | exact True.intro | (simp only [Conds, rng, Int.toNat_natCast, List.length_append, bytesV_length] <;> omega) | (simp [Conds, rng] <;> omega) | (simp only [Conds, rng, wrap_u8, wrap_u16, wrap_u32, wrap_u64] <;> omega)) ?_) | (refine MC.la true (la_load1 hs rfl (by rfl)) rfl ?_) | (refine MC.part rfl rfl (fun h => absurd h (by first | decide | omega)) (fun _ => ?_)) | (refine MC.part rfl rfl (fun _ => ?_) (fun h => absurd (by first | decide | omega) h)) | (refine MC.cond rfl (fun h => absurd h (by first | decide | omega)) (fun _ => ?_)) | (refine MC.cond rfl (fun _ => ?_) (fun h => absurd (by first | decide | omega) h)))
      try rw [b0]
      repeat (first | (refine MC.run1 tab 1000 rfl rfl (by first | exact True.intro | (simp only [Conds, rng, Int.toNat_natCast, List.length_append, bytesV_length] <;> omega) | (simp [Conds, rng] <;> omega) | (simp only [Conds, rng, wrap_u8, wrap_u16, wrap_u32, wrap_u64] <;> omega)) ?_) | (refine MC.la true (la_load1 hs rfl (by rfl)) rfl ?_) | (refine MC.part rfl rfl (fun h => absurd h (by first | decide | omega)) (fun _ => ?_)) | (refine MC.part rfl rfl (fun _ => ?_) (fun h => absurd (by first | decide | omega) h)) | (refine MC.cond rfl (fun h => absurd h (by first | decide | omega)) (fun _ => ?_)) | (refine MC.cond rfl (fun _ => ?_) (fun h => absurd (by first | decide | omega) h)))
      try rw [b1]
      repeat (first | (refine MC.run1 tab 1000 rfl rfl (by first | exact True.intro | (simp only [Conds, rng, Int.toNat_natCast, List.length_append, bytesV_length] <;> omega) | (simp [Conds, rng] <;> omega) | (simp only [Conds, rng, wrap_u8, wrap_u16, wrap_u32, wrap_u64] <;> omega)) ?_) | (refine MC.la true (la_load1 hs rfl (by rfl)) rfl ?_) | (refine MC.part rfl rfl (fun h => absurd h (by first | decide | omega)) (fun _ => ?_)) | (refine MC.part rfl rfl (fun _ => ?_) (fun h => absurd (by first | decide | omega) h)) | (refine MC.cond rfl (fun h => absurd h (by first | decide | omega)) (fun _ => ?_)) | (refine MC.cond rfl (fun _ => ?_) (fun h => absurd (by first | decide | omega) h)))
      refine MC.ret rfl ?_
      exact ⟨rfl, rfl⟩
end Go.Proofs.Ytcahpllliflloaa
