/- Tokens: the document's Parts. -/
import Derived.Test.YtcahpllliflloaaKz
set_option linter.unusedVariables false
set_option linter.unusedSimpArgs false
namespace Go.Proofs.Ytcahpllliflloaa
open Go Go.Sl Go.Tk
attribute [local irreducible] LooksAt

set_option maxHeartbeats 8000000 in
theorem partsD_spec {F : List Assn} {w : World} (q : Bs) (hs : Sat F w) (hl : q.length ≤ 9223372036854775807) :
    Ret Try.prog 16 [str q] w (partsP F q) := by
  refine Ret.enter [(true, str q)] _ Try.func16 rfl Try.ntmps16 rfl ?_
  have short : q.length < 2 → ¬ Whole q := fun h hw => by have := (whole_inner hw).2; omega
  have big : 16384 < q.length → ¬ Whole q := fun h hw => by have := hw.1; omega
  rcases Nat.lt_or_ge q.length 2 with h2 | h2
  · repeat (first | (refine MC.run1 tab 1000 rfl rfl (by first | exact True.intro | (simp only [Conds, rng, Int.toNat_natCast, List.length_append, bytesV_length] <;> omega) | (simp [Conds, rng] <;> omega) | (simp only [Conds, rng, wrap_u8, wrap_u16, wrap_u32, wrap_u64] <;> omega)) ?_) | (refine MC.la true (la_load1 hs rfl (by rfl)) rfl ?_) | (refine MC.part rfl rfl (fun h => absurd h (by first | decide | omega)) (fun _ => ?_)) | (refine MC.part rfl rfl (fun _ => ?_) (fun h => absurd (by first | decide | omega) h)) | (refine MC.cond rfl (fun h => absurd h (by first | decide | omega)) (fun _ => ?_)) | (refine MC.cond rfl (fun _ => ?_) (fun h => absurd (by first | decide | omega) h)))
    refine MC.ret rfl ?_
    exact .inr ⟨short h2, rfl, hs⟩
  rcases Nat.lt_or_ge 16384 q.length with hb | hb
  · repeat (first | (refine MC.run1 tab 1000 rfl rfl (by first | exact True.intro | (simp only [Conds, rng, Int.toNat_natCast, List.length_append, bytesV_length] <;> omega) | (simp [Conds, rng] <;> omega) | (simp only [Conds, rng, wrap_u8, wrap_u16, wrap_u32, wrap_u64] <;> omega)) ?_) | (refine MC.la true (la_load1 hs rfl (by rfl)) rfl ?_) | (refine MC.part rfl rfl (fun h => absurd h (by first | decide | omega)) (fun _ => ?_)) | (refine MC.part rfl rfl (fun _ => ?_) (fun h => absurd (by first | decide | omega) h)) | (refine MC.cond rfl (fun h => absurd h (by first | decide | omega)) (fun _ => ?_)) | (refine MC.cond rfl (fun _ => ?_) (fun h => absurd (by first | decide | omega) h)))
    refine MC.ret rfl ?_
    exact .inr ⟨big hb, rfl, hs⟩
  obtain ⟨c, t, hq⟩ : ∃ c t, q = c :: t := by
    cases q with
    | nil => simp at h2
    | cons c t => exact ⟨c, t, rfl⟩
  have b0 : byteAt q (0 : Int).toNat = (c.toNat : Int) := by rw [hq]; rfl
  have hcb := UInt8.toNat_lt c
  by_cases h34 : c = 34
  · have h34' : (c.toNat : Int) = 34 := by rw [h34]; rfl
    have hqq : q = 34 :: t := by rw [hq, h34]
    have hqs := quotedR_all 48 (Nat.le_refl _) F w 0 q t (by omega) (by rw [List.drop_zero]; exact hqq) hs
    rw [← hqq] at hqs
    have hqs : Ret Try.prog 20 [str q, int 0, int 0] w (quotedP q 0 F (quoteL 48 q)) := hqs
    cases hqr0 : quoteL 48 q with
    | text =>
      have hnw : ¬ Whole q := fun h => by have := h.2.2; rw [hqr0] at this; cases this
      rw [hqr0] at hqs
      repeat (first | (refine MC.run1 tab 1000 rfl rfl (by first | exact True.intro | (simp only [Conds, rng, Int.toNat_natCast, List.length_append, bytesV_length] <;> omega) | (simp [Conds, rng] <;> omega) | (simp only [Conds, rng, wrap_u8, wrap_u16, wrap_u32, wrap_u64] <;> omega)) ?_) | (refine MC.la true (la_load1 hs rfl (by rfl)) rfl ?_) | (refine MC.part rfl rfl (fun h => absurd h (by first | decide | omega)) (fun _ => ?_)) | (refine MC.part rfl rfl (fun _ => ?_) (fun h => absurd (by first | decide | omega) h)) | (refine MC.cond rfl (fun h => absurd h (by first | decide | omega)) (fun _ => ?_)) | (refine MC.cond rfl (fun _ => ?_) (fun h => absurd (by first | decide | omega) h)))
      try rw [b0]
      repeat (first | (refine MC.run1 tab 1000 rfl rfl (by first | exact True.intro | (simp only [Conds, rng, Int.toNat_natCast, List.length_append, bytesV_length] <;> omega) | (simp [Conds, rng] <;> omega) | (simp only [Conds, rng, wrap_u8, wrap_u16, wrap_u32, wrap_u64] <;> omega)) ?_) | (refine MC.la true (la_load1 hs rfl (by rfl)) rfl ?_) | (refine MC.part rfl rfl (fun h => absurd h (by first | decide | omega)) (fun _ => ?_)) | (refine MC.part rfl rfl (fun _ => ?_) (fun h => absurd (by first | decide | omega) h)) | (refine MC.cond rfl (fun h => absurd h (by first | decide | omega)) (fun _ => ?_)) | (refine MC.cond rfl (fun _ => ?_) (fun h => absurd (by first | decide | omega) h)))
      refine MC.does true (does_call rfl (hqs)) rfl ?_
      rintro _ w ⟨rfl, hs⟩
      repeat (first | (refine MC.run1 tab 1000 rfl rfl (by first | exact True.intro | (simp only [Conds, rng, Int.toNat_natCast, List.length_append, bytesV_length] <;> omega) | (simp [Conds, rng] <;> omega) | (simp only [Conds, rng, wrap_u8, wrap_u16, wrap_u32, wrap_u64] <;> omega)) ?_) | (refine MC.la true (la_load1 hs rfl (by rfl)) rfl ?_) | (refine MC.part rfl rfl (fun h => absurd h (by first | decide | omega)) (fun _ => ?_)) | (refine MC.part rfl rfl (fun _ => ?_) (fun h => absurd (by first | decide | omega) h)) | (refine MC.cond rfl (fun h => absurd h (by first | decide | omega)) (fun _ => ?_)) | (refine MC.cond rfl (fun _ => ?_) (fun h => absurd (by first | decide | omega) h)))
      refine MC.ret rfl ?_
      exact .inr ⟨hnw, rfl, hs⟩
    | err a e =>
      have hnw : ¬ Whole q := fun h => by have := h.2.2; rw [hqr0] at this; cases this
      have he : 1 ≤ e := (quoteL_e 48 _ _ _ hqr0).1
      rw [hqr0] at hqs
      repeat (first | (refine MC.run1 tab 1000 rfl rfl (by first | exact True.intro | (simp only [Conds, rng, Int.toNat_natCast, List.length_append, bytesV_length] <;> omega) | (simp [Conds, rng] <;> omega) | (simp only [Conds, rng, wrap_u8, wrap_u16, wrap_u32, wrap_u64] <;> omega)) ?_) | (refine MC.la true (la_load1 hs rfl (by rfl)) rfl ?_) | (refine MC.part rfl rfl (fun h => absurd h (by first | decide | omega)) (fun _ => ?_)) | (refine MC.part rfl rfl (fun _ => ?_) (fun h => absurd (by first | decide | omega) h)) | (refine MC.cond rfl (fun h => absurd h (by first | decide | omega)) (fun _ => ?_)) | (refine MC.cond rfl (fun _ => ?_) (fun h => absurd (by first | decide | omega) h)))
      try rw [b0]
      repeat (first | (refine MC.run1 tab 1000 rfl rfl (by first | exact True.intro | (simp only [Conds, rng, Int.toNat_natCast, List.length_append, bytesV_length] <;> omega) | (simp [Conds, rng] <;> omega) | (simp only [Conds, rng, wrap_u8, wrap_u16, wrap_u32, wrap_u64] <;> omega)) ?_) | (refine MC.la true (la_load1 hs rfl (by rfl)) rfl ?_) | (refine MC.part rfl rfl (fun h => absurd h (by first | decide | omega)) (fun _ => ?_)) | (refine MC.part rfl rfl (fun _ => ?_) (fun h => absurd (by first | decide | omega) h)) | (refine MC.cond rfl (fun h => absurd h (by first | decide | omega)) (fun _ => ?_)) | (refine MC.cond rfl (fun _ => ?_) (fun h => absurd (by first | decide | omega) h)))
      refine MC.does true (does_call rfl (hqs)) rfl ?_
      rintro _ w ⟨rfl, hs⟩
      repeat (first | (refine MC.run1 tab 1000 rfl rfl (by first | exact True.intro | (simp only [Conds, rng, Int.toNat_natCast, List.length_append, bytesV_length] <;> omega) | (simp [Conds, rng] <;> omega) | (simp only [Conds, rng, wrap_u8, wrap_u16, wrap_u32, wrap_u64] <;> omega)) ?_) | (refine MC.la true (la_load1 hs rfl (by rfl)) rfl ?_) | (refine MC.part rfl rfl (fun h => absurd h (by first | decide | omega)) (fun _ => ?_)) | (refine MC.part rfl rfl (fun _ => ?_) (fun h => absurd (by first | decide | omega) h)) | (refine MC.cond rfl (fun h => absurd h (by first | decide | omega)) (fun _ => ?_)) | (refine MC.cond rfl (fun _ => ?_) (fun h => absurd (by first | decide | omega) h)))
      refine MC.ret rfl ?_
      exact .inr ⟨hnw, rfl, hs⟩
    | ok n =>
      rw [hqr0] at hqs
      by_cases hn : n = q.length
      · have hW : Whole q := ⟨hb, ⟨t, hqq⟩, by rw [hqr0, hn]⟩
        obtain ⟨hqr, hq2⟩ := whole_inner hW
        have hn' : ((0 + n : Nat) : Int) = ((q.length : Nat) : Int) := by omega
        repeat (first | (refine MC.run1 tab 1000 rfl rfl (by first | exact True.intro | (simp only [Conds, rng, Int.toNat_natCast, List.length_append, bytesV_length] <;> omega) | (simp [Conds, rng] <;> omega) | (simp only [Conds, rng, wrap_u8, wrap_u16, wrap_u32, wrap_u64] <;> omega)) ?_) | (refine MC.la true (la_load1 hs rfl (by rfl)) rfl ?_) | (refine MC.part rfl rfl (fun h => absurd h (by first | decide | omega)) (fun _ => ?_)) | (refine MC.part rfl rfl (fun _ => ?_) (fun h => absurd (by first | decide | omega) h)) | (refine MC.cond rfl (fun h => absurd h (by first | decide | omega)) (fun _ => ?_)) | (refine MC.cond rfl (fun _ => ?_) (fun h => absurd (by first | decide | omega) h)))
        try rw [b0]
        repeat (first | (refine MC.run1 tab 1000 rfl rfl (by first | exact True.intro | (simp only [Conds, rng, Int.toNat_natCast, List.length_append, bytesV_length] <;> omega) | (simp [Conds, rng] <;> omega) | (simp only [Conds, rng, wrap_u8, wrap_u16, wrap_u32, wrap_u64] <;> omega)) ?_) | (refine MC.la true (la_load1 hs rfl (by rfl)) rfl ?_) | (refine MC.part rfl rfl (fun h => absurd h (by first | decide | omega)) (fun _ => ?_)) | (refine MC.part rfl rfl (fun _ => ?_) (fun h => absurd (by first | decide | omega) h)) | (refine MC.cond rfl (fun h => absurd h (by first | decide | omega)) (fun _ => ?_)) | (refine MC.cond rfl (fun _ => ?_) (fun h => absurd (by first | decide | omega) h)))
        refine MC.does true (does_call rfl (hqs)) rfl ?_
        rintro _ w ⟨rfl, hs⟩
        repeat (first | (refine MC.run1 tab 1000 rfl rfl (by first | exact True.intro | (simp only [Conds, rng, Int.toNat_natCast, List.length_append, bytesV_length] <;> omega) | (simp [Conds, rng] <;> omega) | (simp only [Conds, rng, wrap_u8, wrap_u16, wrap_u32, wrap_u64] <;> omega)) ?_) | (refine MC.la true (la_load1 hs rfl (by rfl)) rfl ?_) | (refine MC.part rfl rfl (fun h => absurd h (by first | decide | omega)) (fun _ => ?_)) | (refine MC.part rfl rfl (fun _ => ?_) (fun h => absurd (by first | decide | omega) h)) | (refine MC.cond rfl (fun h => absurd h (by first | decide | omega)) (fun _ => ?_)) | (refine MC.cond rfl (fun _ => ?_) (fun h => absurd (by first | decide | omega) h)))
        have hs := (hs.sl_nil 3 1)
        have hs := (hs.sl_nil 9 1)
        have hs := (hs.sl_nil 9 1)
        refine MC.loop (σ := (Nat × Nat) × (List Bs × List Bs × List Nat) × (Value × Value × Value)) (fun x => [(0, true, str q), (8, true, x.2.2.1), (9, true, x.2.2.2.1), (10, true, x.2.2.2.2), (11, true, str (slc q x.1.2 x.1.1)), (12, true, int ((x.1.1 : Nat) : Int))])
          (fun x w => x.1.1 < q.length ∧ x.1.2 ≤ x.1.1 ∧ 1 ≤ x.1.2 ∧ quoteR (nextD 47) (q.drop x.1.1) = .ok (q.length - x.1.1) ∧ partsR (nextD 47) q 1 1 = glue x.2.1.1 x.2.1.2.1 x.2.1.2.2 (partsR (nextD 47) q x.1.2 x.1.1) ∧
            x.2.1.1.length ≤ x.1.1 ∧ x.2.1.2.1.length ≤ x.1.1 ∧ x.2.1.2.2.length ≤ x.1.1 ∧ Sat (strsS x.2.2.1 x.2.1.1 :: strsS x.2.2.2.1 x.2.1.2.1 :: natsS x.2.2.2.2 x.2.1.2.2 :: F) w)
          (fun x => q.length - x.1.1) ((1, 1), ([], [], []), (.slice none 0 0, .slice none 0 0, .slice none 0 0)) (by rw [slc_self]; exact (by repeat (first | exact trivial | refine ⟨rfl, ?_⟩)))
          ⟨by show 1 < q.length; omega, Nat.le_refl _, Nat.le_refl _, hqr, by rw [glue_nil], Nat.zero_le _, Nat.zero_le _, Nat.zero_le _, hs⟩ ?_
        rintro ⟨⟨j, a⟩, ⟨tt, ff, aa⟩, va, vb, vc⟩ w hx
        clear hs
        replace hx : j < q.length ∧ a ≤ j ∧ 1 ≤ a ∧ quoteR (nextD 47) (q.drop j) = .ok (q.length - j) ∧ partsR (nextD 47) q 1 1 = glue tt ff aa (partsR (nextD 47) q a j) ∧ tt.length ≤ j ∧ ff.length ≤ j ∧ aa.length ≤ j ∧ Sat (strsS va tt :: strsS vb ff :: natsS vc aa :: F) w := hx
        obtain ⟨hj, haj, ha1, hqj, hgl, hlt, hlf, hla, hs⟩ := hx
        dsimp only []
        have hok := nextD_ok 47
        have bk := byteAt_getD hj
        have hsll : (slc q a j).length ≤ q.length := by unfold slc; rw [List.length_drop, List.length_take]; omega
        cases at47 hj hqj with
        | last h =>
          rw [partsR_end (a := a) (k := j) (by omega)] at hgl
          repeat (first | (refine MC.run1 tab 1000 rfl rfl (by first | exact True.intro | (simp only [Conds, rng, Int.toNat_natCast, List.length_append, bytesV_length] <;> omega) | (simp [Conds, rng] <;> omega) | (simp only [Conds, rng, wrap_u8, wrap_u16, wrap_u32, wrap_u64] <;> omega)) ?_) | (refine MC.la true (la_load1 hs rfl (by rfl)) rfl ?_) | (refine MC.part rfl rfl (fun h => absurd h (by first | decide | omega)) (fun _ => ?_)) | (refine MC.part rfl rfl (fun _ => ?_) (fun h => absurd (by first | decide | omega) h)) | (refine MC.cond rfl (fun h => absurd h (by first | decide | omega)) (fun _ => ?_)) | (refine MC.cond rfl (fun _ => ?_) (fun h => absurd (by first | decide | omega) h)))
          refine MC.does true (does_buildL hs rfl rfl rfl (by first | (intro u hu; simp only [List.mem_cons, List.not_mem_nil, or_false] at hu; rcases hu with rfl | rfl | rfl | rfl | rfl | rfl | rfl | rfl <;> rfl) | (intro u hu; simp only [List.mem_cons, List.not_mem_nil, or_false] at hu; rcases hu with rfl | rfl | rfl | rfl <;> rfl) | (intro u hu; simp only [List.mem_cons, List.not_mem_nil, or_false] at hu; rcases hu with rfl | rfl <;> rfl) | (intro u hu; simp only [List.mem_cons, List.not_mem_nil, or_false] at hu; subst hu; rfl)) rfl) rfl ?_; rintro _ w ⟨b1, rfl, hs⟩
          refine MC.does true (does_append hs rfl rfl (src_at rfl (one_str _)) (by omega) (by omega)) rfl ?_
          intro va' w hs
          repeat (first | (refine MC.run1 tab 1000 rfl rfl (by first | exact True.intro | (simp only [Conds, rng, Int.toNat_natCast, List.length_append, bytesV_length] <;> omega) | (simp [Conds, rng] <;> omega) | (simp only [Conds, rng, wrap_u8, wrap_u16, wrap_u32, wrap_u64] <;> omega)) ?_) | (refine MC.la true (la_load1 hs rfl (by rfl)) rfl ?_) | (refine MC.part rfl rfl (fun h => absurd h (by first | decide | omega)) (fun _ => ?_)) | (refine MC.part rfl rfl (fun _ => ?_) (fun h => absurd (by first | decide | omega) h)) | (refine MC.cond rfl (fun h => absurd h (by first | decide | omega)) (fun _ => ?_)) | (refine MC.cond rfl (fun _ => ?_) (fun h => absurd (by first | decide | omega) h)))
          refine MC.ret rfl ?_
          refine .inl ⟨hW, va', vb, vc, rfl, ?_⟩
          rw [hgl]
          dsimp only [glue]
          rw [List.append_nil, List.append_nil, ← h]
          show Sat (sl va' _ 1 (tt ++ [slc q a j]).length (strsV (tt ++ [slc q a j])) :: strsS vb ff :: natsS vc aa :: F) w
          rw [List.length_append, strsV_snoc]
          exact hs.tail
        | plain h hc hn =>
          have hcb := UInt8.toNat_lt (q.getD j 0)
          have nc : ¬ ((q.getD j 0).toNat : Int) = 92 := fun e => hc (u8i (k := 92) e)
          rw [partsR_plain (a := a) (k := j) hok h hc] at hgl
          have hs1 : (q.take (((j : Nat) : Int) + 1).toNat).drop ((j : Nat) : Int).toNat = slc q j (j + 1) := by
            have e : (((j : Nat) : Int) + 1).toNat = j + 1 := by omega
            rw [e]; rfl
          have hs2 : (slc q j (j + 1)).length ≤ q.length := by unfold slc; rw [List.length_drop, List.length_take]; omega
          have hs3 : slc q a j ++ slc q j (j + 1) = slc q a (j + 1) := slc_app haj (by omega) (by omega)
          repeat (first | (refine MC.run1 tab 1000 rfl rfl (by first | exact True.intro | (simp only [Conds, rng, Int.toNat_natCast, List.length_append, bytesV_length] <;> omega) | (simp [Conds, rng] <;> omega) | (simp only [Conds, rng, wrap_u8, wrap_u16, wrap_u32, wrap_u64] <;> omega)) ?_) | (refine MC.la true (la_load1 hs rfl (by rfl)) rfl ?_) | (refine MC.part rfl rfl (fun h => absurd h (by first | decide | omega)) (fun _ => ?_)) | (refine MC.part rfl rfl (fun _ => ?_) (fun h => absurd (by first | decide | omega) h)) | (refine MC.cond rfl (fun h => absurd h (by first | decide | omega)) (fun _ => ?_)) | (refine MC.cond rfl (fun _ => ?_) (fun h => absurd (by first | decide | omega) h)))
          try rw [bk]
          repeat (first | (refine MC.run1 tab 1000 rfl rfl (by first | exact True.intro | (simp only [Conds, rng, Int.toNat_natCast, List.length_append, bytesV_length] <;> omega) | (simp [Conds, rng] <;> omega) | (simp only [Conds, rng, wrap_u8, wrap_u16, wrap_u32, wrap_u64] <;> omega)) ?_) | (refine MC.la true (la_load1 hs rfl (by rfl)) rfl ?_) | (refine MC.part rfl rfl (fun h => absurd h (by first | decide | omega)) (fun _ => ?_)) | (refine MC.part rfl rfl (fun _ => ?_) (fun h => absurd (by first | decide | omega) h)) | (refine MC.cond rfl (fun h => absurd h (by first | decide | omega)) (fun _ => ?_)) | (refine MC.cond rfl (fun _ => ?_) (fun h => absurd (by first | decide | omega) h)))
          rw [hs1]
          repeat (first | (refine MC.run1 tab 1000 rfl rfl (by first | exact True.intro | (simp only [Conds, rng, Int.toNat_natCast, List.length_append, bytesV_length] <;> omega) | (simp [Conds, rng] <;> omega) | (simp only [Conds, rng, wrap_u8, wrap_u16, wrap_u32, wrap_u64] <;> omega)) ?_) | (refine MC.la true (la_load1 hs rfl (by rfl)) rfl ?_) | (refine MC.part rfl rfl (fun h => absurd h (by first | decide | omega)) (fun _ => ?_)) | (refine MC.part rfl rfl (fun _ => ?_) (fun h => absurd (by first | decide | omega) h)) | (refine MC.cond rfl (fun h => absurd h (by first | decide | omega)) (fun _ => ?_)) | (refine MC.cond rfl (fun _ => ?_) (fun h => absurd (by first | decide | omega) h)))
          rw [hs3]
          refine MC.again ((j + 1, a), (tt, ff, aa), (va, vb, vc)) (by repeat (first | exact trivial | refine ⟨rfl, ?_⟩)) ⟨by show j + 1 < q.length; omega, by show a ≤ j + 1; omega, ha1, hn, hgl, by show tt.length ≤ j + 1; omega, by show ff.length ≤ j + 1; omega, by show aa.length ≤ j + 1; omega, hs⟩ (by show q.length - (j + 1) < q.length - j; omega)
        | back h hc hd hn =>
          have hc' : ((q.getD j 0).toNat : Int) = 92 := by rw [hc]; rfl
          have bk1 := byteAt_getD (show j + 1 < q.length by omega)
          have bk1 : byteAt q (((j : Nat) : Int) + 1).toNat = ((q.getD (j + 1) 0).toNat : Int) := bk1
          have hdb := UInt8.toNat_lt (q.getD (j + 1) 0)
          have nd : ¬ ((q.getD (j + 1) 0).toNat : Int) = 40 := fun e => hd (u8i (k := 40) e)
          rw [partsR_back (a := a) (k := j) hok (by omega) hc hd] at hgl
          have hs1 : (q.take (((j : Nat) : Int) + 2).toNat).drop ((j : Nat) : Int).toNat = slc q j (j + 2) := by
            have e : (((j : Nat) : Int) + 2).toNat = j + 2 := by omega
            rw [e]; rfl
          have hs2 : (slc q j (j + 2)).length ≤ q.length := by unfold slc; rw [List.length_drop, List.length_take]; omega
          have hs3 : slc q a j ++ slc q j (j + 2) = slc q a (j + 2) := slc_app haj (by omega) (by omega)
          repeat (first | (refine MC.run1 tab 1000 rfl rfl (by first | exact True.intro | (simp only [Conds, rng, Int.toNat_natCast, List.length_append, bytesV_length] <;> omega) | (simp [Conds, rng] <;> omega) | (simp only [Conds, rng, wrap_u8, wrap_u16, wrap_u32, wrap_u64] <;> omega)) ?_) | (refine MC.la true (la_load1 hs rfl (by rfl)) rfl ?_) | (refine MC.part rfl rfl (fun h => absurd h (by first | decide | omega)) (fun _ => ?_)) | (refine MC.part rfl rfl (fun _ => ?_) (fun h => absurd (by first | decide | omega) h)) | (refine MC.cond rfl (fun h => absurd h (by first | decide | omega)) (fun _ => ?_)) | (refine MC.cond rfl (fun _ => ?_) (fun h => absurd (by first | decide | omega) h)))
          try rw [bk]
          repeat (first | (refine MC.run1 tab 1000 rfl rfl (by first | exact True.intro | (simp only [Conds, rng, Int.toNat_natCast, List.length_append, bytesV_length] <;> omega) | (simp [Conds, rng] <;> omega) | (simp only [Conds, rng, wrap_u8, wrap_u16, wrap_u32, wrap_u64] <;> omega)) ?_) | (refine MC.la true (la_load1 hs rfl (by rfl)) rfl ?_) | (refine MC.part rfl rfl (fun h => absurd h (by first | decide | omega)) (fun _ => ?_)) | (refine MC.part rfl rfl (fun _ => ?_) (fun h => absurd (by first | decide | omega) h)) | (refine MC.cond rfl (fun h => absurd h (by first | decide | omega)) (fun _ => ?_)) | (refine MC.cond rfl (fun _ => ?_) (fun h => absurd (by first | decide | omega) h)))
          try rw [bk1]
          repeat (first | (refine MC.run1 tab 1000 rfl rfl (by first | exact True.intro | (simp only [Conds, rng, Int.toNat_natCast, List.length_append, bytesV_length] <;> omega) | (simp [Conds, rng] <;> omega) | (simp only [Conds, rng, wrap_u8, wrap_u16, wrap_u32, wrap_u64] <;> omega)) ?_) | (refine MC.la true (la_load1 hs rfl (by rfl)) rfl ?_) | (refine MC.part rfl rfl (fun h => absurd h (by first | decide | omega)) (fun _ => ?_)) | (refine MC.part rfl rfl (fun _ => ?_) (fun h => absurd (by first | decide | omega) h)) | (refine MC.cond rfl (fun h => absurd h (by first | decide | omega)) (fun _ => ?_)) | (refine MC.cond rfl (fun _ => ?_) (fun h => absurd (by first | decide | omega) h)))
          rw [hs1]
          repeat (first | (refine MC.run1 tab 1000 rfl rfl (by first | exact True.intro | (simp only [Conds, rng, Int.toNat_natCast, List.length_append, bytesV_length] <;> omega) | (simp [Conds, rng] <;> omega) | (simp only [Conds, rng, wrap_u8, wrap_u16, wrap_u32, wrap_u64] <;> omega)) ?_) | (refine MC.la true (la_load1 hs rfl (by rfl)) rfl ?_) | (refine MC.part rfl rfl (fun h => absurd h (by first | decide | omega)) (fun _ => ?_)) | (refine MC.part rfl rfl (fun _ => ?_) (fun h => absurd (by first | decide | omega) h)) | (refine MC.cond rfl (fun h => absurd h (by first | decide | omega)) (fun _ => ?_)) | (refine MC.cond rfl (fun _ => ?_) (fun h => absurd (by first | decide | omega) h)))
          rw [hs3]
          refine MC.again ((j + 2, a), (tt, ff, aa), (va, vb, vc)) (by repeat (first | exact trivial | refine ⟨rfl, ?_⟩)) ⟨by show j + 2 < q.length; omega, by show a ≤ j + 2; omega, ha1, hn, hgl, by show tt.length ≤ j + 2; omega, by show ff.length ≤ j + 2; omega, by show aa.length ≤ j + 2; omega, hs⟩ (by show q.length - (j + 2) < q.length - j; omega)
        | inn m h hm1 hc hd hi hn =>
          have hc' : ((q.getD j 0).toNat : Int) = 92 := by rw [hc]; rfl
          have bk1 := byteAt_getD (show j + 1 < q.length by omega)
          have bk1 : byteAt q (((j : Nat) : Int) + 1).toNat = ((q.getD (j + 1) 0).toNat : Int) := bk1
          have hd' : ((q.getD (j + 1) 0).toNat : Int) = 40 := by rw [hd]; rfl
          rw [partsR_in (a := a) (k := j) hok (by omega) hc hd hi, glue_put] at hgl
          repeat (first | (refine MC.run1 tab 1000 rfl rfl (by first | exact True.intro | (simp only [Conds, rng, Int.toNat_natCast, List.length_append, bytesV_length] <;> omega) | (simp [Conds, rng] <;> omega) | (simp only [Conds, rng, wrap_u8, wrap_u16, wrap_u32, wrap_u64] <;> omega)) ?_) | (refine MC.la true (la_load1 hs rfl (by rfl)) rfl ?_) | (refine MC.part rfl rfl (fun h => absurd h (by first | decide | omega)) (fun _ => ?_)) | (refine MC.part rfl rfl (fun _ => ?_) (fun h => absurd (by first | decide | omega) h)) | (refine MC.cond rfl (fun h => absurd h (by first | decide | omega)) (fun _ => ?_)) | (refine MC.cond rfl (fun _ => ?_) (fun h => absurd (by first | decide | omega) h)))
          try rw [bk]
          repeat (first | (refine MC.run1 tab 1000 rfl rfl (by first | exact True.intro | (simp only [Conds, rng, Int.toNat_natCast, List.length_append, bytesV_length] <;> omega) | (simp [Conds, rng] <;> omega) | (simp only [Conds, rng, wrap_u8, wrap_u16, wrap_u32, wrap_u64] <;> omega)) ?_) | (refine MC.la true (la_load1 hs rfl (by rfl)) rfl ?_) | (refine MC.part rfl rfl (fun h => absurd h (by first | decide | omega)) (fun _ => ?_)) | (refine MC.part rfl rfl (fun _ => ?_) (fun h => absurd (by first | decide | omega) h)) | (refine MC.cond rfl (fun h => absurd h (by first | decide | omega)) (fun _ => ?_)) | (refine MC.cond rfl (fun _ => ?_) (fun h => absurd (by first | decide | omega) h)))
          try rw [bk1]
          repeat (first | (refine MC.run1 tab 1000 rfl rfl (by first | exact True.intro | (simp only [Conds, rng, Int.toNat_natCast, List.length_append, bytesV_length] <;> omega) | (simp [Conds, rng] <;> omega) | (simp only [Conds, rng, wrap_u8, wrap_u16, wrap_u32, wrap_u64] <;> omega)) ?_) | (refine MC.la true (la_load1 hs rfl (by rfl)) rfl ?_) | (refine MC.part rfl rfl (fun h => absurd h (by first | decide | omega)) (fun _ => ?_)) | (refine MC.part rfl rfl (fun _ => ?_) (fun h => absurd (by first | decide | omega) h)) | (refine MC.cond rfl (fun h => absurd h (by first | decide | omega)) (fun _ => ?_)) | (refine MC.cond rfl (fun _ => ?_) (fun h => absurd (by first | decide | omega) h)))
          refine MC.loop (σ := Nat × Nat) (fun x => [(0, true, str q), (8, true, va), (9, true, vb), (10, true, vc), (11, true, str (slc q a j)), (12, true, int ((x.1 : Nat) : Int)), (13, true, int ((j + 2 : Nat) : Int)), (14, true, int ((x.2 : Nat) : Int))])
            (fun x w => j + 2 ≤ x.1 ∧ x.1 ≤ j + 2 + m ∧ x.2 ≤ x.1 - (j + 2) + 1 ∧ (x.2 = 0 → x.1 = j + 2 + m) ∧ (1 ≤ x.2 → innerL (nextD 47) (q.drop x.1) x.2 = .ok (j + 2 + m - x.1)) ∧ Sat (strsS va tt :: strsS vb ff :: natsS vc aa :: F) w)
            (fun x => 2 * (j + 2 + m - x.1) + (if x.2 = 0 then 0 else 1)) (j + 2, 1) (by repeat (first | exact trivial | refine ⟨rfl, ?_⟩)) ⟨Nat.le_refl _, by show j + 2 ≤ j + 2 + m; omega, by show 1 ≤ j + 2 - (j + 2) + 1; omega, fun h => absurd (show (1 : Nat) = 0 from h) (by decide), fun _ => by rw [hi]; congr 1; omega, hs⟩ ?_
          rintro ⟨i, o⟩ w hxs
          replace hxs : j + 2 ≤ i ∧ i ≤ j + 2 + m ∧ o ≤ i - (j + 2) + 1 ∧ (o = 0 → i = j + 2 + m) ∧ (1 ≤ o → innerL (nextD 47) (q.drop i) o = .ok (j + 2 + m - i)) ∧ Sat (strsS va tt :: strsS vb ff :: natsS vc aa :: F) w := hxs
          clear hs
          obtain ⟨hji, him, ho, g0, g1, hs⟩ := hxs
          dsimp only []
          rcases Nat.eq_zero_or_pos o with hz | hpos
          · subst hz
            have hie := g0 rfl
            subst hie
            have hsl2 : (q.take (((j + 2 + m : Nat) : Int) - 1).toNat).drop ((j + 2 : Nat) : Int).toNat = slc q (j + 2) (j + 2 + m - 1) := by
              have e : (((j + 2 + m : Nat) : Int) - 1).toNat = j + 2 + m - 1 := by omega
              rw [e]; rfl
            repeat (first | (refine MC.run1 tab 1000 rfl rfl (by first | exact True.intro | (simp only [Conds, rng, Int.toNat_natCast, List.length_append, bytesV_length] <;> omega) | (simp [Conds, rng] <;> omega) | (simp only [Conds, rng, wrap_u8, wrap_u16, wrap_u32, wrap_u64] <;> omega)) ?_) | (refine MC.la true (la_load1 hs rfl (by rfl)) rfl ?_) | (refine MC.part rfl rfl (fun h => absurd h (by first | decide | omega)) (fun _ => ?_)) | (refine MC.part rfl rfl (fun _ => ?_) (fun h => absurd (by first | decide | omega) h)) | (refine MC.cond rfl (fun h => absurd h (by first | decide | omega)) (fun _ => ?_)) | (refine MC.cond rfl (fun _ => ?_) (fun h => absurd (by first | decide | omega) h)))
            refine MC.does true (does_buildL hs rfl rfl rfl (by first | (intro u hu; simp only [List.mem_cons, List.not_mem_nil, or_false] at hu; rcases hu with rfl | rfl | rfl | rfl | rfl | rfl | rfl | rfl <;> rfl) | (intro u hu; simp only [List.mem_cons, List.not_mem_nil, or_false] at hu; rcases hu with rfl | rfl | rfl | rfl <;> rfl) | (intro u hu; simp only [List.mem_cons, List.not_mem_nil, or_false] at hu; rcases hu with rfl | rfl <;> rfl) | (intro u hu; simp only [List.mem_cons, List.not_mem_nil, or_false] at hu; subst hu; rfl)) rfl) rfl ?_; rintro _ w ⟨b1, rfl, hs⟩
            refine MC.does true (does_append hs rfl rfl (src_at rfl (one_str _)) (by omega) (by omega)) rfl ?_
            intro va' w hs
            replace hs : Sat (sl va' 9 1 (tt.length + 1) (strsV tt ++ [str (slc q a j)]) :: strsS vb ff :: natsS vc aa :: F) w := hs.tail
            have ett : strsS va' (tt ++ [slc q a j]) = sl va' 9 1 (tt.length + 1) (strsV tt ++ [str (slc q a j)]) := by
              show sl va' _ 1 (tt ++ [slc q a j]).length (strsV (tt ++ [slc q a j])) = _
              rw [List.length_append, strsV_snoc]; rfl
            rw [← ett] at hs
            repeat (first | (refine MC.run1 tab 1000 rfl rfl (by first | exact True.intro | (simp only [Conds, rng, Int.toNat_natCast, List.length_append, bytesV_length] <;> omega) | (simp [Conds, rng] <;> omega) | (simp only [Conds, rng, wrap_u8, wrap_u16, wrap_u32, wrap_u64] <;> omega)) ?_) | (refine MC.la true (la_load1 hs rfl (by rfl)) rfl ?_) | (refine MC.part rfl rfl (fun h => absurd h (by first | decide | omega)) (fun _ => ?_)) | (refine MC.part rfl rfl (fun _ => ?_) (fun h => absurd (by first | decide | omega) h)) | (refine MC.cond rfl (fun h => absurd h (by first | decide | omega)) (fun _ => ?_)) | (refine MC.cond rfl (fun _ => ?_) (fun h => absurd (by first | decide | omega) h)))
            rw [hsl2]
            refine MC.does true (does_buildL hs rfl rfl rfl (by first | (intro u hu; simp only [List.mem_cons, List.not_mem_nil, or_false] at hu; rcases hu with rfl | rfl | rfl | rfl | rfl | rfl | rfl | rfl <;> rfl) | (intro u hu; simp only [List.mem_cons, List.not_mem_nil, or_false] at hu; rcases hu with rfl | rfl | rfl | rfl <;> rfl) | (intro u hu; simp only [List.mem_cons, List.not_mem_nil, or_false] at hu; rcases hu with rfl | rfl <;> rfl) | (intro u hu; simp only [List.mem_cons, List.not_mem_nil, or_false] at hu; subst hu; rfl)) rfl) rfl ?_; rintro _ w ⟨b2, rfl, hs⟩
            refine MC.does true (does_append hs rfl rfl (src_at rfl (one_str _)) (by omega) (by omega)) rfl ?_
            intro vb' w hs
            repeat (first | (refine MC.run1 tab 1000 rfl rfl (by first | exact True.intro | (simp only [Conds, rng, Int.toNat_natCast, List.length_append, bytesV_length] <;> omega) | (simp [Conds, rng] <;> omega) | (simp only [Conds, rng, wrap_u8, wrap_u16, wrap_u32, wrap_u64] <;> omega)) ?_) | (refine MC.la true (la_load1 hs rfl (by rfl)) rfl ?_) | (refine MC.part rfl rfl (fun h => absurd h (by first | decide | omega)) (fun _ => ?_)) | (refine MC.part rfl rfl (fun _ => ?_) (fun h => absurd (by first | decide | omega) h)) | (refine MC.cond rfl (fun h => absurd h (by first | decide | omega)) (fun _ => ?_)) | (refine MC.cond rfl (fun _ => ?_) (fun h => absurd (by first | decide | omega) h)))
            refine MC.does true (does_buildL hs rfl rfl rfl (by first | (intro u hu; simp only [List.mem_cons, List.not_mem_nil, or_false] at hu; rcases hu with rfl | rfl | rfl | rfl | rfl | rfl | rfl | rfl <;> rfl) | (intro u hu; simp only [List.mem_cons, List.not_mem_nil, or_false] at hu; rcases hu with rfl | rfl | rfl | rfl <;> rfl) | (intro u hu; simp only [List.mem_cons, List.not_mem_nil, or_false] at hu; rcases hu with rfl | rfl <;> rfl) | (intro u hu; simp only [List.mem_cons, List.not_mem_nil, or_false] at hu; subst hu; rfl)) rfl) rfl ?_; rintro _ w ⟨b3, rfl, hs⟩
            refine MC.does true (does_append hs rfl rfl (src_at rfl (one_nat (j + 2))) (by omega) (by omega)) rfl ?_
            intro vc' w hs
            repeat (first | (refine MC.run1 tab 1000 rfl rfl (by first | exact True.intro | (simp only [Conds, rng, Int.toNat_natCast, List.length_append, bytesV_length] <;> omega) | (simp [Conds, rng] <;> omega) | (simp only [Conds, rng, wrap_u8, wrap_u16, wrap_u32, wrap_u64] <;> omega)) ?_) | (refine MC.la true (la_load1 hs rfl (by rfl)) rfl ?_) | (refine MC.part rfl rfl (fun h => absurd h (by first | decide | omega)) (fun _ => ?_)) | (refine MC.part rfl rfl (fun _ => ?_) (fun h => absurd (by first | decide | omega) h)) | (refine MC.cond rfl (fun h => absurd h (by first | decide | omega)) (fun _ => ?_)) | (refine MC.cond rfl (fun _ => ?_) (fun h => absurd (by first | decide | omega) h)))
            refine MC.again ((j + 2 + m, j + 2 + m), (tt ++ [slc q a j], ff ++ [slc q (j + 2) (j + 2 + m - 1)], aa ++ [j + 2]), (va', vb', vc')) (by rw [slc_self]; exact (by repeat (first | exact trivial | refine ⟨rfl, ?_⟩)))
              ⟨by show j + 2 + m < q.length; omega, Nat.le_refl _, by show 1 ≤ j + 2 + m; omega, hn, hgl, by show (tt ++ [slc q a j]).length ≤ j + 2 + m; rw [List.length_append]; simp; omega, by show (ff ++ [_]).length ≤ j + 2 + m; rw [List.length_append]; simp; omega, by show (aa ++ [_]).length ≤ j + 2 + m; rw [List.length_append]; simp; omega, ?_⟩ (by show q.length - (j + 2 + m) < q.length - j; omega)
            show Sat (strsS va' (tt ++ [slc q a j]) :: sl vb' _ 1 (ff ++ [slc q (j + 2) (j + 2 + m - 1)]).length (strsV (ff ++ [slc q (j + 2) (j + 2 + m - 1)])) :: sl vc' _ 1 (aa ++ [j + 2]).length (natsV (aa ++ [j + 2])) :: F) w
            rw [List.length_append, List.length_append, strsV_snoc, natsV_snoc]
            exact hs.tail.tail
          · have hin := g1 hpos
            have hnx := oneR_all 47 (by omega) (strsS va tt :: strsS vb ff :: natsS vc aa :: F) w i q (by omega) (by omega) hs
            have hnx : Ret Try.prog 18 [str q, int ((i : Nat) : Int), int 1] w (oneP q i (strsS va tt :: strsS vb ff :: natsS vc aa :: F) (nextD 47 (q.drop i))) := hnx
            cases hx : nextD 47 (q.drop i) with
            | err a e => rw [innerL_err hx] at hin; cases hin
            | none => rw [innerL_none hx] at hin; cases hin
            | tok sk n kd tx =>
              have hbb := hok _ _ _ _ _ hx
              rw [List.length_drop] at hbb
              rw [hx] at hnx
              have hst := innerL_step hok hx (o := o)
              rw [List.drop_drop] at hst
              rw [hst] at hin
              obtain ⟨O, hO⟩ : ∃ O, opens o kd tx = O := ⟨_, rfl⟩
              rw [hO] at hin
              have hO1 : O ≤ o + 1 := by
                rw [← hO]; unfold opens
                split
                · omega
                · split <;> omega
              have hinv : i + (sk + n) ≤ j + 2 + m ∧ (O = 0 → i + (sk + n) = j + 2 + m) ∧ (1 ≤ O → innerL (nextD 47) (q.drop (i + (sk + n))) O = .ok (j + 2 + m - (i + (sk + n)))) := by
                by_cases hO0 : O = 0
                · rw [if_pos hO0] at hin
                  injection hin with hin
                  exact ⟨by omega, fun _ => by omega, fun h => by omega⟩
                · rw [if_neg hO0] at hin
                  cases hq3 : innerL (nextD 47) (q.drop (i + (sk + n))) O with
                  | ok r =>
                    rw [hq3] at hin
                    injection hin with hin
                    exact ⟨by omega, fun h => absurd h hO0, fun _ => by congr 1; omega⟩
                  | text => rw [hq3] at hin; cases hin
                  | err a e => rw [hq3] at hin; cases hin
              have hlast : j + 2 ≤ i + (sk + n) ∧ O ≤ i + (sk + n) - (j + 2) + 1 ∧ 2 * (j + 2 + m - (i + (sk + n))) + (if O = 0 then 0 else 1) < 2 * (j + 2 + m - i) + (if o = 0 then 0 else 1) := by
                refine ⟨by omega, by omega, ?_⟩
                rw [if_neg (show ¬ o = 0 by omega)]
                split <;> omega
              repeat (first | (refine MC.run1 tab 1000 rfl rfl (by first | exact True.intro | (simp only [Conds, rng, Int.toNat_natCast, List.length_append, bytesV_length] <;> omega) | (simp [Conds, rng] <;> omega) | (simp only [Conds, rng, wrap_u8, wrap_u16, wrap_u32, wrap_u64] <;> omega)) ?_) | (refine MC.la true (la_load1 hs rfl (by rfl)) rfl ?_) | (refine MC.part rfl rfl (fun h => absurd h (by first | decide | omega)) (fun _ => ?_)) | (refine MC.part rfl rfl (fun _ => ?_) (fun h => absurd (by first | decide | omega) h)) | (refine MC.cond rfl (fun h => absurd h (by first | decide | omega)) (fun _ => ?_)) | (refine MC.cond rfl (fun _ => ?_) (fun h => absurd (by first | decide | omega) h)))
              refine MC.does true (does_call rfl (hnx)) rfl ?_
              rintro _ w ⟨rfl, hs⟩
              repeat (first | (refine MC.run1 tab 1000 rfl rfl (by first | exact True.intro | (simp only [Conds, rng, Int.toNat_natCast, List.length_append, bytesV_length] <;> omega) | (simp [Conds, rng] <;> omega) | (simp only [Conds, rng, wrap_u8, wrap_u16, wrap_u32, wrap_u64] <;> omega)) ?_) | (refine MC.la true (la_load1 hs rfl (by rfl)) rfl ?_) | (refine MC.part rfl rfl (fun h => absurd h (by first | decide | omega)) (fun _ => ?_)) | (refine MC.part rfl rfl (fun _ => ?_) (fun h => absurd (by first | decide | omega) h)) | (refine MC.cond rfl (fun h => absurd h (by first | decide | omega)) (fun _ => ?_)) | (refine MC.cond rfl (fun _ => ?_) (fun h => absurd (by first | decide | omega) h)))
              refine MC.does true (does_alloc hs) rfl ?_; rintro _ w ⟨bt, rfl, hs⟩
              refine MC.does true (does_store (vs := [int ((kd : Nat) : Int), str tx, int ((i + sk : Nat) : Int)]) hs rfl rfl rfl rfl (by first | (intro u hu; simp only [List.mem_cons, List.not_mem_nil, or_false] at hu; rcases hu with rfl | rfl | rfl | rfl | rfl | rfl | rfl | rfl <;> rfl) | (intro u hu; simp only [List.mem_cons, List.not_mem_nil, or_false] at hu; rcases hu with rfl | rfl | rfl | rfl <;> rfl) | (intro u hu; simp only [List.mem_cons, List.not_mem_nil, or_false] at hu; rcases hu with rfl | rfl <;> rfl) | (intro u hu; simp only [List.mem_cons, List.not_mem_nil, or_false] at hu; subst hu; rfl)) (by simp)) rfl ?_; intro _ w hs
              have hs : Sat (blk bt [int ((kd : Nat) : Int), str tx, int ((i + sk : Nat) : Int)] 36 :: strsS va tt :: strsS vb ff :: natsS vc aa :: F) w := hs
              by_cases h6 : kd = 6
              · have h6' : ((kd : Nat) : Int) = 6 := by omega
                by_cases ht1 : tx = [40]
                · have hOe : ((o : Nat) : Int) + 1 = ((O : Nat) : Int) := by
                    rw [← hO]; unfold opens; rw [if_pos ⟨h6, ht1⟩]; omega
                  have ht2 : ¬ tx = [41] := by rw [ht1]; decide
                  repeat (first | (refine MC.run1 tab 1000 rfl rfl (by first | exact True.intro | (simp only [Conds, rng, Int.toNat_natCast, List.length_append, bytesV_length] <;> omega) | (simp [Conds, rng] <;> omega) | (simp only [Conds, rng, wrap_u8, wrap_u16, wrap_u32, wrap_u64] <;> omega)) ?_) | (refine MC.la true (la_load1 hs rfl (by rfl)) rfl ?_) | (refine MC.part rfl rfl (fun h => absurd h (by first | decide | omega)) (fun _ => ?_)) | (refine MC.part rfl rfl (fun _ => ?_) (fun h => absurd (by first | decide | omega) h)) | (refine MC.cond rfl (fun h => absurd h (by first | decide | omega)) (fun _ => ?_)) | (refine MC.cond rfl (fun _ => ?_) (fun h => absurd (by first | decide | omega) h)))
                  rw [hOe]
                  refine MC.again (i + (sk + n), O) (by repeat (first | exact trivial | refine ⟨rfl, ?_⟩)) ⟨hlast.1, hinv.1, hlast.2.1, hinv.2.1, hinv.2.2, hs.tail⟩ hlast.2.2
                · by_cases ht2 : tx = [41]
                  · have hOe : ((o : Nat) : Int) - 1 = ((O : Nat) : Int) := by
                      rw [← hO]; unfold opens; rw [if_neg (fun h => ht1 h.2), if_pos ⟨h6, ht2⟩]; omega
                    repeat (first | (refine MC.run1 tab 1000 rfl rfl (by first | exact True.intro | (simp only [Conds, rng, Int.toNat_natCast, List.length_append, bytesV_length] <;> omega) | (simp [Conds, rng] <;> omega) | (simp only [Conds, rng, wrap_u8, wrap_u16, wrap_u32, wrap_u64] <;> omega)) ?_) | (refine MC.la true (la_load1 hs rfl (by rfl)) rfl ?_) | (refine MC.part rfl rfl (fun h => absurd h (by first | decide | omega)) (fun _ => ?_)) | (refine MC.part rfl rfl (fun _ => ?_) (fun h => absurd (by first | decide | omega) h)) | (refine MC.cond rfl (fun h => absurd h (by first | decide | omega)) (fun _ => ?_)) | (refine MC.cond rfl (fun _ => ?_) (fun h => absurd (by first | decide | omega) h)))
                    rw [hOe]
                    refine MC.again (i + (sk + n), O) (by repeat (first | exact trivial | refine ⟨rfl, ?_⟩)) ⟨hlast.1, hinv.1, hlast.2.1, hinv.2.1, hinv.2.2, hs.tail⟩ hlast.2.2
                  · have hOe : ((o : Nat) : Int) = ((O : Nat) : Int) := by
                      rw [← hO]; unfold opens; rw [if_neg (fun h => ht1 h.2), if_neg (fun h => ht2 h.2)]
                    repeat (first | (refine MC.run1 tab 1000 rfl rfl (by first | exact True.intro | (simp only [Conds, rng, Int.toNat_natCast, List.length_append, bytesV_length] <;> omega) | (simp [Conds, rng] <;> omega) | (simp only [Conds, rng, wrap_u8, wrap_u16, wrap_u32, wrap_u64] <;> omega)) ?_) | (refine MC.la true (la_load1 hs rfl (by rfl)) rfl ?_) | (refine MC.part rfl rfl (fun h => absurd h (by first | decide | omega)) (fun _ => ?_)) | (refine MC.part rfl rfl (fun _ => ?_) (fun h => absurd (by first | decide | omega) h)) | (refine MC.cond rfl (fun h => absurd h (by first | decide | omega)) (fun _ => ?_)) | (refine MC.cond rfl (fun _ => ?_) (fun h => absurd (by first | decide | omega) h)))
                    rw [hOe]
                    refine MC.again (i + (sk + n), O) (by repeat (first | exact trivial | refine ⟨rfl, ?_⟩)) ⟨hlast.1, hinv.1, hlast.2.1, hinv.2.1, hinv.2.2, hs.tail⟩ hlast.2.2
              · have h6' : ¬ ((kd : Nat) : Int) = 6 := by omega
                have hOe : ((o : Nat) : Int) = ((O : Nat) : Int) := by
                  rw [← hO]; unfold opens; rw [if_neg (fun h => h6 h.1), if_neg (fun h => h6 h.1)]
                repeat (first | (refine MC.run1 tab 1000 rfl rfl (by first | exact True.intro | (simp only [Conds, rng, Int.toNat_natCast, List.length_append, bytesV_length] <;> omega) | (simp [Conds, rng] <;> omega) | (simp only [Conds, rng, wrap_u8, wrap_u16, wrap_u32, wrap_u64] <;> omega)) ?_) | (refine MC.la true (la_load1 hs rfl (by rfl)) rfl ?_) | (refine MC.part rfl rfl (fun h => absurd h (by first | decide | omega)) (fun _ => ?_)) | (refine MC.part rfl rfl (fun _ => ?_) (fun h => absurd (by first | decide | omega) h)) | (refine MC.cond rfl (fun h => absurd h (by first | decide | omega)) (fun _ => ?_)) | (refine MC.cond rfl (fun _ => ?_) (fun h => absurd (by first | decide | omega) h)))
                rw [hOe]
                refine MC.again (i + (sk + n), O) (by repeat (first | exact trivial | refine ⟨rfl, ?_⟩)) ⟨hlast.1, hinv.1, hlast.2.1, hinv.2.1, hinv.2.2, hs.tail⟩ hlast.2.2
      · have hnw : ¬ Whole q := fun h => by have := h.2.2; rw [hqr0] at this; injection this with this; exact hn this
        have hn' : ¬ ((0 + n : Nat) : Int) = ((q.length : Nat) : Int) := by omega
        repeat (first | (refine MC.run1 tab 1000 rfl rfl (by first | exact True.intro | (simp only [Conds, rng, Int.toNat_natCast, List.length_append, bytesV_length] <;> omega) | (simp [Conds, rng] <;> omega) | (simp only [Conds, rng, wrap_u8, wrap_u16, wrap_u32, wrap_u64] <;> omega)) ?_) | (refine MC.la true (la_load1 hs rfl (by rfl)) rfl ?_) | (refine MC.part rfl rfl (fun h => absurd h (by first | decide | omega)) (fun _ => ?_)) | (refine MC.part rfl rfl (fun _ => ?_) (fun h => absurd (by first | decide | omega) h)) | (refine MC.cond rfl (fun h => absurd h (by first | decide | omega)) (fun _ => ?_)) | (refine MC.cond rfl (fun _ => ?_) (fun h => absurd (by first | decide | omega) h)))
        try rw [b0]
        repeat (first | (refine MC.run1 tab 1000 rfl rfl (by first | exact True.intro | (simp only [Conds, rng, Int.toNat_natCast, List.length_append, bytesV_length] <;> omega) | (simp [Conds, rng] <;> omega) | (simp only [Conds, rng, wrap_u8, wrap_u16, wrap_u32, wrap_u64] <;> omega)) ?_) | (refine MC.la true (la_load1 hs rfl (by rfl)) rfl ?_) | (refine MC.part rfl rfl (fun h => absurd h (by first | decide | omega)) (fun _ => ?_)) | (refine MC.part rfl rfl (fun _ => ?_) (fun h => absurd (by first | decide | omega) h)) | (refine MC.cond rfl (fun h => absurd h (by first | decide | omega)) (fun _ => ?_)) | (refine MC.cond rfl (fun _ => ?_) (fun h => absurd (by first | decide | omega) h)))
        refine MC.does true (does_call rfl (hqs)) rfl ?_
        rintro _ w ⟨rfl, hs⟩
        repeat (first | (refine MC.run1 tab 1000 rfl rfl (by first | exact True.intro | (simp only [Conds, rng, Int.toNat_natCast, List.length_append, bytesV_length] <;> omega) | (simp [Conds, rng] <;> omega) | (simp only [Conds, rng, wrap_u8, wrap_u16, wrap_u32, wrap_u64] <;> omega)) ?_) | (refine MC.la true (la_load1 hs rfl (by rfl)) rfl ?_) | (refine MC.part rfl rfl (fun h => absurd h (by first | decide | omega)) (fun _ => ?_)) | (refine MC.part rfl rfl (fun _ => ?_) (fun h => absurd (by first | decide | omega) h)) | (refine MC.cond rfl (fun h => absurd h (by first | decide | omega)) (fun _ => ?_)) | (refine MC.cond rfl (fun _ => ?_) (fun h => absurd (by first | decide | omega) h)))
        refine MC.ret rfl ?_
        exact .inr ⟨hnw, rfl, hs⟩
  · have n34 : (c.toNat : Int) ≠ 34 := fun e => h34 (u8i (k := 34) e)
    have hnw : ¬ Whole q := fun h => by
      obtain ⟨u, hu⟩ := h.2.1
      rw [hq] at hu; injection hu with hu _
      exact h34 hu
    repeat (first | (refine MC.run1 tab 1000 rfl rfl (by first | exact True.intro | (simp only [Conds, rng, Int.toNat_natCast, List.length_append, bytesV_length] <;> omega) | (simp [Conds, rng] <;> omega) | (simp only [Conds, rng, wrap_u8, wrap_u16, wrap_u32, wrap_u64] <;> omega)) ?_) | (refine MC.la true (la_load1 hs rfl (by rfl)) rfl ?_) | (refine MC.part rfl rfl (fun h => absurd h (by first | decide | omega)) (fun _ => ?_)) | (refine MC.part rfl rfl (fun _ => ?_) (fun h => absurd (by first | decide | omega) h)) | (refine MC.cond rfl (fun h => absurd h (by first | decide | omega)) (fun _ => ?_)) | (refine MC.cond rfl (fun _ => ?_) (fun h => absurd (by first | decide | omega) h)))
    try rw [b0]
    repeat (first | (refine MC.run1 tab 1000 rfl rfl (by first | exact True.intro | (simp only [Conds, rng, Int.toNat_natCast, List.length_append, bytesV_length] <;> omega) | (simp [Conds, rng] <;> omega) | (simp only [Conds, rng, wrap_u8, wrap_u16, wrap_u32, wrap_u64] <;> omega)) ?_) | (refine MC.la true (la_load1 hs rfl (by rfl)) rfl ?_) | (refine MC.part rfl rfl (fun h => absurd h (by first | decide | omega)) (fun _ => ?_)) | (refine MC.part rfl rfl (fun _ => ?_) (fun h => absurd (by first | decide | omega) h)) | (refine MC.cond rfl (fun h => absurd h (by first | decide | omega)) (fun _ => ?_)) | (refine MC.cond rfl (fun _ => ?_) (fun h => absurd (by first | decide | omega) h)))
    refine MC.ret rfl ?_
    exact .inr ⟨hnw, rfl, hs⟩
end Go.Proofs.Ytcahpllliflloaa
