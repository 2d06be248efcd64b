/- Tokens: the document's answer: texts in quotes, Scan. -/
import Derived.Test.YtcahpllliflloaaKl
set_option linter.unusedVariables false
set_option linter.unusedSimpArgs false
namespace Go.Proofs.Ytcahpllliflloaa
open Go Go.Sl Go.Tk
attribute [local irreducible] LooksAt

theorem quotedR_zero : QuotedC (quoteL 0) 48 := by
  intro F w p s t hl hr hs
  refine Ret.enter [(true, str s), (true, int ((p : Nat) : Int)), (true, int 48)] _ Try.func20 rfl Try.ntmps20 rfl ?_
  repeat (first | (refine MC.run1 tab 1000 rfl rfl (by first | exact True.intro | (simp only [Conds, rng, Int.toNat_natCast, List.length_append, bytesV_length] <;> omega) | (simp [Conds, rng] <;> omega) | (simp only [Conds, rng, wrap_u8, wrap_u16, wrap_u32, wrap_u64] <;> omega)) ?_) | (refine MC.la true (la_load1 hs rfl (by rfl)) rfl ?_) | (refine MC.part rfl rfl (fun h => absurd h (by first | decide | omega)) (fun _ => ?_)) | (refine MC.part rfl rfl (fun _ => ?_) (fun h => absurd (by first | decide | omega) h)) | (refine MC.cond rfl (fun h => absurd h (by first | decide | omega)) (fun _ => ?_)) | (refine MC.cond rfl (fun _ => ?_) (fun h => absurd (by first | decide | omega) h)))
  refine MC.ret rfl ?_
  exact ⟨rfl, hs⟩
set_option maxHeartbeats 4000000 in
theorem quotedR_succ {D : Nat} {d : Int} (hd0 : 0 ≤ d ∧ d ≤ 47) (hn : OneC (nextL (quoteL D)) (d + 1)) : QuotedC (quoteL (D + 1)) d := by
  intro F w p s t hl hr hs
  obtain ⟨_, hlt, hp1⟩ := at_drop hr
  have hok : NOk (nextL (quoteL D)) := next_ok (quoteL_ok D)
  have hne : NErr (nextL (quoteL D)) := fun r a e h => nextL_e (quoteL_e D) h
  have hq0 : quoteL (D + 1) (34 :: t) = (quoteR (nextL (quoteL D)) t).on 1 := rfl
  rw [hq0]
  clear hq0
  revert hn hok hne
  generalize nextL (quoteL D) = nx
  intro hn hok hne
  refine Ret.enter [(true, str s), (true, int ((p : Nat) : Int)), (true, int d)] _ Try.func20 rfl Try.ntmps20 rfl ?_
  repeat (first | (refine MC.run1 tab 1000 rfl rfl (by first | exact True.intro | (simp only [Conds, rng, Int.toNat_natCast, List.length_append, bytesV_length] <;> omega) | (simp [Conds, rng] <;> omega) | (simp only [Conds, rng, wrap_u8, wrap_u16, wrap_u32, wrap_u64] <;> omega)) ?_) | (refine MC.la true (la_load1 hs rfl (by rfl)) rfl ?_) | (refine MC.part rfl rfl (fun h => absurd h (by first | decide | omega)) (fun _ => ?_)) | (refine MC.part rfl rfl (fun _ => ?_) (fun h => absurd (by first | decide | omega) h)) | (refine MC.cond rfl (fun h => absurd h (by first | decide | omega)) (fun _ => ?_)) | (refine MC.cond rfl (fun _ => ?_) (fun h => absurd (by first | decide | omega) h)))
  refine MC.loop (σ := Nat) (fun k => [(0, true, str s), (1, true, int ((p : Nat) : Int)), (2, true, int d), (8, true, int ((k : Nat) : Int))])
    (fun k w => p + 1 ≤ k ∧ k ≤ s.length + 1 ∧ quoteR nx t = (quoteR nx (s.drop k)).on (k - (p + 1)) ∧ Sat F w)
    (fun k => s.length + 1 - k) (p + 1) (by repeat (first | exact trivial | refine ⟨rfl, ?_⟩)) ⟨Nat.le_refl _, by omega, by rw [hp1, Nat.sub_self, Q.on_zero], hs⟩ ?_
  rintro k w hxs
  clear hs
  obtain ⟨hpk, hk, h1, hs⟩ := hxs
  rcases Nat.lt_or_ge k s.length with hlk | hge
  · obtain ⟨c, u, hu⟩ := drop_lt hlk
    obtain ⟨bk, _, hnn⟩ := at_drop hu
    have hcb := UInt8.toNat_lt c
    have hul : u.length = s.length - (k + 1) := by rw [← hnn, List.length_drop]
    rw [hu] at h1
    by_cases h34 : c = 34
    · have h34' : (c.toNat : Int) = 34 := by rw [h34]; rfl
      rw [h1, h34, quoteR_end]
      repeat (first | (refine MC.run1 tab 1000 rfl rfl (by first | exact True.intro | (simp only [Conds, rng, Int.toNat_natCast, List.length_append, bytesV_length] <;> omega) | (simp [Conds, rng] <;> omega) | (simp only [Conds, rng, wrap_u8, wrap_u16, wrap_u32, wrap_u64] <;> omega)) ?_) | (refine MC.la true (la_load1 hs rfl (by rfl)) rfl ?_) | (refine MC.part rfl rfl (fun h => absurd h (by first | decide | omega)) (fun _ => ?_)) | (refine MC.part rfl rfl (fun _ => ?_) (fun h => absurd (by first | decide | omega) h)) | (refine MC.cond rfl (fun h => absurd h (by first | decide | omega)) (fun _ => ?_)) | (refine MC.cond rfl (fun _ => ?_) (fun h => absurd (by first | decide | omega) h)))
      try rw [bk]
      repeat (first | (refine MC.run1 tab 1000 rfl rfl (by first | exact True.intro | (simp only [Conds, rng, Int.toNat_natCast, List.length_append, bytesV_length] <;> omega) | (simp [Conds, rng] <;> omega) | (simp only [Conds, rng, wrap_u8, wrap_u16, wrap_u32, wrap_u64] <;> omega)) ?_) | (refine MC.la true (la_load1 hs rfl (by rfl)) rfl ?_) | (refine MC.part rfl rfl (fun h => absurd h (by first | decide | omega)) (fun _ => ?_)) | (refine MC.part rfl rfl (fun _ => ?_) (fun h => absurd (by first | decide | omega) h)) | (refine MC.cond rfl (fun h => absurd h (by first | decide | omega)) (fun _ => ?_)) | (refine MC.cond rfl (fun _ => ?_) (fun h => absurd (by first | decide | omega) h)))
      refine MC.ret rfl ?_
      have e : ((k : Nat) : Int) + 1 = ((p + (1 + (k - (p + 1) + 1)) : Nat) : Int) := by omega
      rw [e]
      exact ⟨rfl, hs⟩
    have n34 : (c.toNat : Int) ≠ 34 := fun e => h34 (u8i (k := 34) e)
    by_cases h92 : c = 92
    · have h92' : (c.toNat : Int) = 92 := by rw [h92]; rfl
      rw [h92] at h1
      cases u with
      | nil =>
        simp only [List.length_nil] at hul
        have e1 : k + 1 = s.length := by omega
        have hnx : quoteR nx t = (quoteR nx (s.drop (k + 2))).on (k + 2 - (p + 1)) := by
          rw [h1, List.drop_eq_nil_of_le (by omega), quoteR_last, quoteR_nil]; rfl
        repeat (first | (refine MC.run1 tab 1000 rfl rfl (by first | exact True.intro | (simp only [Conds, rng, Int.toNat_natCast, List.length_append, bytesV_length] <;> omega) | (simp [Conds, rng] <;> omega) | (simp only [Conds, rng, wrap_u8, wrap_u16, wrap_u32, wrap_u64] <;> omega)) ?_) | (refine MC.la true (la_load1 hs rfl (by rfl)) rfl ?_) | (refine MC.part rfl rfl (fun h => absurd h (by first | decide | omega)) (fun _ => ?_)) | (refine MC.part rfl rfl (fun _ => ?_) (fun h => absurd (by first | decide | omega) h)) | (refine MC.cond rfl (fun h => absurd h (by first | decide | omega)) (fun _ => ?_)) | (refine MC.cond rfl (fun _ => ?_) (fun h => absurd (by first | decide | omega) h)))
        try rw [bk]
        repeat (first | (refine MC.run1 tab 1000 rfl rfl (by first | exact True.intro | (simp only [Conds, rng, Int.toNat_natCast, List.length_append, bytesV_length] <;> omega) | (simp [Conds, rng] <;> omega) | (simp only [Conds, rng, wrap_u8, wrap_u16, wrap_u32, wrap_u64] <;> omega)) ?_) | (refine MC.la true (la_load1 hs rfl (by rfl)) rfl ?_) | (refine MC.part rfl rfl (fun h => absurd h (by first | decide | omega)) (fun _ => ?_)) | (refine MC.part rfl rfl (fun _ => ?_) (fun h => absurd (by first | decide | omega) h)) | (refine MC.cond rfl (fun h => absurd h (by first | decide | omega)) (fun _ => ?_)) | (refine MC.cond rfl (fun _ => ?_) (fun h => absurd (by first | decide | omega) h)))
        try rw [bk]
        repeat (first | (refine MC.run1 tab 1000 rfl rfl (by first | exact True.intro | (simp only [Conds, rng, Int.toNat_natCast, List.length_append, bytesV_length] <;> omega) | (simp [Conds, rng] <;> omega) | (simp only [Conds, rng, wrap_u8, wrap_u16, wrap_u32, wrap_u64] <;> omega)) ?_) | (refine MC.la true (la_load1 hs rfl (by rfl)) rfl ?_) | (refine MC.part rfl rfl (fun h => absurd h (by first | decide | omega)) (fun _ => ?_)) | (refine MC.part rfl rfl (fun _ => ?_) (fun h => absurd (by first | decide | omega) h)) | (refine MC.cond rfl (fun h => absurd h (by first | decide | omega)) (fun _ => ?_)) | (refine MC.cond rfl (fun _ => ?_) (fun h => absurd (by first | decide | omega) h)))
        refine MC.again (k + 2) (by repeat (first | exact trivial | refine ⟨rfl, ?_⟩)) ⟨by omega, by omega, hnx, hs⟩ (by omega)
      | cons d2 v =>
        simp only [List.length_cons] at hul
        have e2 : s.drop (k + 2) = v := by rw [show k + 2 = (k + 1) + 1 from rfl, ← List.drop_drop, hnn]; rfl
        obtain ⟨bk1, _, _⟩ := at_drop hnn
        have bk1 : byteAt s (((k : Nat) : Int) + 1).toNat = (d2.toNat : Int) := bk1
        have hdb := UInt8.toNat_lt d2
        by_cases hd40 : d2 = 40
        · have hd40' : (d2.toNat : Int) = 40 := by rw [hd40]; rfl
          rw [hd40, quoteR_in hok] at h1
          repeat (first | (refine MC.run1 tab 1000 rfl rfl (by first | exact True.intro | (simp only [Conds, rng, Int.toNat_natCast, List.length_append, bytesV_length] <;> omega) | (simp [Conds, rng] <;> omega) | (simp only [Conds, rng, wrap_u8, wrap_u16, wrap_u32, wrap_u64] <;> omega)) ?_) | (refine MC.la true (la_load1 hs rfl (by rfl)) rfl ?_) | (refine MC.part rfl rfl (fun h => absurd h (by first | decide | omega)) (fun _ => ?_)) | (refine MC.part rfl rfl (fun _ => ?_) (fun h => absurd (by first | decide | omega) h)) | (refine MC.cond rfl (fun h => absurd h (by first | decide | omega)) (fun _ => ?_)) | (refine MC.cond rfl (fun _ => ?_) (fun h => absurd (by first | decide | omega) h)))
          try rw [bk]
          repeat (first | (refine MC.run1 tab 1000 rfl rfl (by first | exact True.intro | (simp only [Conds, rng, Int.toNat_natCast, List.length_append, bytesV_length] <;> omega) | (simp [Conds, rng] <;> omega) | (simp only [Conds, rng, wrap_u8, wrap_u16, wrap_u32, wrap_u64] <;> omega)) ?_) | (refine MC.la true (la_load1 hs rfl (by rfl)) rfl ?_) | (refine MC.part rfl rfl (fun h => absurd h (by first | decide | omega)) (fun _ => ?_)) | (refine MC.part rfl rfl (fun _ => ?_) (fun h => absurd (by first | decide | omega) h)) | (refine MC.cond rfl (fun h => absurd h (by first | decide | omega)) (fun _ => ?_)) | (refine MC.cond rfl (fun _ => ?_) (fun h => absurd (by first | decide | omega) h)))
          try rw [bk]
          repeat (first | (refine MC.run1 tab 1000 rfl rfl (by first | exact True.intro | (simp only [Conds, rng, Int.toNat_natCast, List.length_append, bytesV_length] <;> omega) | (simp [Conds, rng] <;> omega) | (simp only [Conds, rng, wrap_u8, wrap_u16, wrap_u32, wrap_u64] <;> omega)) ?_) | (refine MC.la true (la_load1 hs rfl (by rfl)) rfl ?_) | (refine MC.part rfl rfl (fun h => absurd h (by first | decide | omega)) (fun _ => ?_)) | (refine MC.part rfl rfl (fun _ => ?_) (fun h => absurd (by first | decide | omega) h)) | (refine MC.cond rfl (fun h => absurd h (by first | decide | omega)) (fun _ => ?_)) | (refine MC.cond rfl (fun _ => ?_) (fun h => absurd (by first | decide | omega) h)))
          try rw [bk1]
          repeat (first | (refine MC.run1 tab 1000 rfl rfl (by first | exact True.intro | (simp only [Conds, rng, Int.toNat_natCast, List.length_append, bytesV_length] <;> omega) | (simp [Conds, rng] <;> omega) | (simp only [Conds, rng, wrap_u8, wrap_u16, wrap_u32, wrap_u64] <;> omega)) ?_) | (refine MC.la true (la_load1 hs rfl (by rfl)) rfl ?_) | (refine MC.part rfl rfl (fun h => absurd h (by first | decide | omega)) (fun _ => ?_)) | (refine MC.part rfl rfl (fun _ => ?_) (fun h => absurd (by first | decide | omega) h)) | (refine MC.cond rfl (fun h => absurd h (by first | decide | omega)) (fun _ => ?_)) | (refine MC.cond rfl (fun _ => ?_) (fun h => absurd (by first | decide | omega) h)))
          refine MC.loop (σ := Nat × Nat) (fun x => [(0, true, str s), (1, true, int ((p : Nat) : Int)), (2, true, int d), (8, true, int ((x.1 : Nat) : Int)), (9, true, int ((x.2 : Nat) : Int))])
            (fun x w => k + 2 ≤ x.1 ∧ x.1 ≤ s.length ∧ x.2 ≤ x.1 - (k + 2) + 1 ∧ (x.2 = 0 → innerL nx v 1 = .ok (x.1 - (k + 2))) ∧ (1 ≤ x.2 → innerL nx v 1 = (innerL nx (s.drop x.1) x.2).on (x.1 - (k + 2))) ∧ Sat F w)
            (fun x => 2 * (s.length - x.1) + (if x.2 = 0 then 0 else 1)) (k + 2, 1) (by repeat (first | exact trivial | refine ⟨rfl, ?_⟩)) ⟨Nat.le_refl _, by show k + 2 ≤ s.length; omega, by show 1 ≤ k + 2 - (k + 2) + 1; omega, fun h => absurd (show (1 : Nat) = 0 from h) (by decide), fun _ => by rw [e2, Nat.sub_self, Q.on_zero], hs⟩ ?_
          rintro ⟨j, o⟩ w hxs
          replace hxs : k + 2 ≤ j ∧ j ≤ s.length ∧ o ≤ j - (k + 2) + 1 ∧ (o = 0 → innerL nx v 1 = .ok (j - (k + 2))) ∧ (1 ≤ o → innerL nx v 1 = (innerL nx (s.drop j) o).on (j - (k + 2))) ∧ Sat F w := hxs
          clear hs
          obtain ⟨hpj, hj, ho, g0, g1, hs⟩ := hxs
          dsimp only []
          rcases Nat.eq_zero_or_pos o with hz | hpos
          · subst hz
            rw [g0 rfl] at h1
            dsimp only [] at h1
            have hb := innerL_ok hok (g0 rfl)
            repeat (first | (refine MC.run1 tab 1000 rfl rfl (by first | exact True.intro | (simp only [Conds, rng, Int.toNat_natCast, List.length_append, bytesV_length] <;> omega) | (simp [Conds, rng] <;> omega) | (simp only [Conds, rng, wrap_u8, wrap_u16, wrap_u32, wrap_u64] <;> omega)) ?_) | (refine MC.la true (la_load1 hs rfl (by rfl)) rfl ?_) | (refine MC.part rfl rfl (fun h => absurd h (by first | decide | omega)) (fun _ => ?_)) | (refine MC.part rfl rfl (fun _ => ?_) (fun h => absurd (by first | decide | omega) h)) | (refine MC.cond rfl (fun h => absurd h (by first | decide | omega)) (fun _ => ?_)) | (refine MC.cond rfl (fun _ => ?_) (fun h => absurd (by first | decide | omega) h)))
            refine MC.again j (by repeat (first | exact trivial | refine ⟨rfl, ?_⟩)) ⟨by omega, by omega, ?_, hs⟩ (by omega)
            have e3 : v.drop (j - (k + 2)) = s.drop j := by rw [← e2, List.drop_drop]; congr 1; omega
            rw [h1, e3, Q.on_on]
            congr 1; omega
          · have hnx := hn F w j s hl hj hs
            have hdl : (s.drop j).length = s.length - j := List.length_drop
            cases hx : nx (s.drop j) with
            | err a e =>
              have he := hne _ _ _ hx
              rw [hx] at hnx
              rw [g1 hpos, innerL_err hx] at h1
              dsimp only [Q.on] at h1
              rw [h1]
              repeat (first | (refine MC.run1 tab 1000 rfl rfl (by first | exact True.intro | (simp only [Conds, rng, Int.toNat_natCast, List.length_append, bytesV_length] <;> omega) | (simp [Conds, rng] <;> omega) | (simp only [Conds, rng, wrap_u8, wrap_u16, wrap_u32, wrap_u64] <;> omega)) ?_) | (refine MC.la true (la_load1 hs rfl (by rfl)) rfl ?_) | (refine MC.part rfl rfl (fun h => absurd h (by first | decide | omega)) (fun _ => ?_)) | (refine MC.part rfl rfl (fun _ => ?_) (fun h => absurd (by first | decide | omega) h)) | (refine MC.cond rfl (fun h => absurd h (by first | decide | omega)) (fun _ => ?_)) | (refine MC.cond rfl (fun _ => ?_) (fun h => absurd (by first | decide | omega) h)))
              refine MC.does true (does_call rfl (hnx)) rfl ?_
              rintro _ w ⟨rfl, hs⟩
              repeat (first | (refine MC.run1 tab 1000 rfl rfl (by first | exact True.intro | (simp only [Conds, rng, Int.toNat_natCast, List.length_append, bytesV_length] <;> omega) | (simp [Conds, rng] <;> omega) | (simp only [Conds, rng, wrap_u8, wrap_u16, wrap_u32, wrap_u64] <;> omega)) ?_) | (refine MC.la true (la_load1 hs rfl (by rfl)) rfl ?_) | (refine MC.part rfl rfl (fun h => absurd h (by first | decide | omega)) (fun _ => ?_)) | (refine MC.part rfl rfl (fun _ => ?_) (fun h => absurd (by first | decide | omega) h)) | (refine MC.cond rfl (fun h => absurd h (by first | decide | omega)) (fun _ => ?_)) | (refine MC.cond rfl (fun _ => ?_) (fun h => absurd (by first | decide | omega) h)))
              refine MC.does true (does_alloc hs) rfl ?_; rintro _ w ⟨bt, rfl, hs⟩
              refine MC.does true (does_store (vs := [int 0, str [], int 0]) hs rfl rfl rfl rfl (by first | (intro u hu; simp only [List.mem_cons, List.not_mem_nil, or_false] at hu; rcases hu with rfl | rfl | rfl | rfl | rfl | rfl | rfl | rfl <;> rfl) | (intro u hu; simp only [List.mem_cons, List.not_mem_nil, or_false] at hu; rcases hu with rfl | rfl | rfl | rfl <;> rfl) | (intro u hu; simp only [List.mem_cons, List.not_mem_nil, or_false] at hu; rcases hu with rfl | rfl <;> rfl) | (intro u hu; simp only [List.mem_cons, List.not_mem_nil, or_false] at hu; subst hu; rfl)) (by simp)) rfl ?_; intro _ w hs
              repeat (first | (refine MC.run1 tab 1000 rfl rfl (by first | exact True.intro | (simp only [Conds, rng, Int.toNat_natCast, List.length_append, bytesV_length] <;> omega) | (simp [Conds, rng] <;> omega) | (simp only [Conds, rng, wrap_u8, wrap_u16, wrap_u32, wrap_u64] <;> omega)) ?_) | (refine MC.la true (la_load1 hs rfl (by rfl)) rfl ?_) | (refine MC.part rfl rfl (fun h => absurd h (by first | decide | omega)) (fun _ => ?_)) | (refine MC.part rfl rfl (fun _ => ?_) (fun h => absurd (by first | decide | omega) h)) | (refine MC.cond rfl (fun h => absurd h (by first | decide | omega)) (fun _ => ?_)) | (refine MC.cond rfl (fun _ => ?_) (fun h => absurd (by first | decide | omega) h)))
              refine MC.ret rfl ?_
              have e4 : j + a = p + (1 + (k - (p + 1) + (2 + (j - (k + 2) + a)))) := by omega
              rw [e4]
              exact ⟨rfl, hs.tail⟩
            | none =>
              rw [hx] at hnx
              rw [g1 hpos, innerL_none hx] at h1
              dsimp only [Q.on] at h1
              rw [h1]
              repeat (first | (refine MC.run1 tab 1000 rfl rfl (by first | exact True.intro | (simp only [Conds, rng, Int.toNat_natCast, List.length_append, bytesV_length] <;> omega) | (simp [Conds, rng] <;> omega) | (simp only [Conds, rng, wrap_u8, wrap_u16, wrap_u32, wrap_u64] <;> omega)) ?_) | (refine MC.la true (la_load1 hs rfl (by rfl)) rfl ?_) | (refine MC.part rfl rfl (fun h => absurd h (by first | decide | omega)) (fun _ => ?_)) | (refine MC.part rfl rfl (fun _ => ?_) (fun h => absurd (by first | decide | omega) h)) | (refine MC.cond rfl (fun h => absurd h (by first | decide | omega)) (fun _ => ?_)) | (refine MC.cond rfl (fun _ => ?_) (fun h => absurd (by first | decide | omega) h)))
              refine MC.does true (does_call rfl (hnx)) rfl ?_
              rintro _ w ⟨rfl, hs⟩
              repeat (first | (refine MC.run1 tab 1000 rfl rfl (by first | exact True.intro | (simp only [Conds, rng, Int.toNat_natCast, List.length_append, bytesV_length] <;> omega) | (simp [Conds, rng] <;> omega) | (simp only [Conds, rng, wrap_u8, wrap_u16, wrap_u32, wrap_u64] <;> omega)) ?_) | (refine MC.la true (la_load1 hs rfl (by rfl)) rfl ?_) | (refine MC.part rfl rfl (fun h => absurd h (by first | decide | omega)) (fun _ => ?_)) | (refine MC.part rfl rfl (fun _ => ?_) (fun h => absurd (by first | decide | omega) h)) | (refine MC.cond rfl (fun h => absurd h (by first | decide | omega)) (fun _ => ?_)) | (refine MC.cond rfl (fun _ => ?_) (fun h => absurd (by first | decide | omega) h)))
              refine MC.does true (does_alloc hs) rfl ?_; rintro _ w ⟨bt, rfl, hs⟩
              refine MC.does true (does_store (vs := [int 0, str [], int 0]) hs rfl rfl rfl rfl (by first | (intro u hu; simp only [List.mem_cons, List.not_mem_nil, or_false] at hu; rcases hu with rfl | rfl | rfl | rfl | rfl | rfl | rfl | rfl <;> rfl) | (intro u hu; simp only [List.mem_cons, List.not_mem_nil, or_false] at hu; rcases hu with rfl | rfl | rfl | rfl <;> rfl) | (intro u hu; simp only [List.mem_cons, List.not_mem_nil, or_false] at hu; rcases hu with rfl | rfl <;> rfl) | (intro u hu; simp only [List.mem_cons, List.not_mem_nil, or_false] at hu; subst hu; rfl)) (by simp)) rfl ?_; intro _ w hs
              repeat (first | (refine MC.run1 tab 1000 rfl rfl (by first | exact True.intro | (simp only [Conds, rng, Int.toNat_natCast, List.length_append, bytesV_length] <;> omega) | (simp [Conds, rng] <;> omega) | (simp only [Conds, rng, wrap_u8, wrap_u16, wrap_u32, wrap_u64] <;> omega)) ?_) | (refine MC.la true (la_load1 hs rfl (by rfl)) rfl ?_) | (refine MC.part rfl rfl (fun h => absurd h (by first | decide | omega)) (fun _ => ?_)) | (refine MC.part rfl rfl (fun _ => ?_) (fun h => absurd (by first | decide | omega) h)) | (refine MC.cond rfl (fun h => absurd h (by first | decide | omega)) (fun _ => ?_)) | (refine MC.cond rfl (fun _ => ?_) (fun h => absurd (by first | decide | omega) h)))
              refine MC.ret rfl ?_
              exact ⟨rfl, hs.tail⟩
            | tok sk n kd tx =>
              have hb := hok _ _ _ _ _ hx
              rw [hx] at hnx
              have hst := innerL_step hok hx (o := o)
              rw [List.drop_drop] at hst
              obtain ⟨O, hO⟩ : ∃ O, opens o kd tx = O := ⟨_, rfl⟩
              rw [hO] at hst
              have hO1 : O ≤ o + 1 := by
                rw [← hO]; unfold opens
                split
                · omega
                · split <;> omega
              have hinv : (O = 0 → innerL nx v 1 = .ok (j + (sk + n) - (k + 2))) ∧ (1 ≤ O → innerL nx v 1 = (innerL nx (s.drop (j + (sk + n))) O).on (j + (sk + n) - (k + 2))) := by
                refine ⟨fun h => ?_, fun h => ?_⟩
                · rw [g1 hpos, hst, if_pos h]
                  show Q.ok _ = _
                  congr 1; omega
                · rw [g1 hpos, hst, if_neg (by omega), Q.on_on]
                  congr 1; omega
              have hlast : k + 2 ≤ j + (sk + n) ∧ j + (sk + n) ≤ s.length ∧ O ≤ j + (sk + n) - (k + 2) + 1 ∧ 2 * (s.length - (j + (sk + n))) + (if O = 0 then 0 else 1) < 2 * (s.length - j) + (if o = 0 then 0 else 1) := by
                refine ⟨by omega, by omega, by omega, ?_⟩
                rw [if_neg (show ¬ o = 0 by omega)]
                split <;> omega
              repeat (first | (refine MC.run1 tab 1000 rfl rfl (by first | exact True.intro | (simp only [Conds, rng, Int.toNat_natCast, List.length_append, bytesV_length] <;> omega) | (simp [Conds, rng] <;> omega) | (simp only [Conds, rng, wrap_u8, wrap_u16, wrap_u32, wrap_u64] <;> omega)) ?_) | (refine MC.la true (la_load1 hs rfl (by rfl)) rfl ?_) | (refine MC.part rfl rfl (fun h => absurd h (by first | decide | omega)) (fun _ => ?_)) | (refine MC.part rfl rfl (fun _ => ?_) (fun h => absurd (by first | decide | omega) h)) | (refine MC.cond rfl (fun h => absurd h (by first | decide | omega)) (fun _ => ?_)) | (refine MC.cond rfl (fun _ => ?_) (fun h => absurd (by first | decide | omega) h)))
              refine MC.does true (does_call rfl (hnx)) rfl ?_
              rintro _ w ⟨rfl, hs⟩
              repeat (first | (refine MC.run1 tab 1000 rfl rfl (by first | exact True.intro | (simp only [Conds, rng, Int.toNat_natCast, List.length_append, bytesV_length] <;> omega) | (simp [Conds, rng] <;> omega) | (simp only [Conds, rng, wrap_u8, wrap_u16, wrap_u32, wrap_u64] <;> omega)) ?_) | (refine MC.la true (la_load1 hs rfl (by rfl)) rfl ?_) | (refine MC.part rfl rfl (fun h => absurd h (by first | decide | omega)) (fun _ => ?_)) | (refine MC.part rfl rfl (fun _ => ?_) (fun h => absurd (by first | decide | omega) h)) | (refine MC.cond rfl (fun h => absurd h (by first | decide | omega)) (fun _ => ?_)) | (refine MC.cond rfl (fun _ => ?_) (fun h => absurd (by first | decide | omega) h)))
              refine MC.does true (does_alloc hs) rfl ?_; rintro _ w ⟨bt, rfl, hs⟩
              refine MC.does true (does_store (vs := [int ((kd : Nat) : Int), str tx, int ((j + sk : Nat) : Int)]) hs rfl rfl rfl rfl (by first | (intro u hu; simp only [List.mem_cons, List.not_mem_nil, or_false] at hu; rcases hu with rfl | rfl | rfl | rfl | rfl | rfl | rfl | rfl <;> rfl) | (intro u hu; simp only [List.mem_cons, List.not_mem_nil, or_false] at hu; rcases hu with rfl | rfl | rfl | rfl <;> rfl) | (intro u hu; simp only [List.mem_cons, List.not_mem_nil, or_false] at hu; rcases hu with rfl | rfl <;> rfl) | (intro u hu; simp only [List.mem_cons, List.not_mem_nil, or_false] at hu; subst hu; rfl)) (by simp)) rfl ?_; intro _ w hs
              have hs : Sat (blk bt [int ((kd : Nat) : Int), str tx, int ((j + sk : Nat) : Int)] 36 :: F) w := hs
              by_cases h6 : kd = 6
              · have h6' : ((kd : Nat) : Int) = 6 := by omega
                by_cases ht1 : tx = [40]
                · have hOe : ((o : Nat) : Int) + 1 = ((O : Nat) : Int) := by
                    rw [← hO]; unfold opens; rw [if_pos ⟨h6, ht1⟩]; omega
                  have ht2 : ¬ tx = [41] := by rw [ht1]; decide
                  repeat (first | (refine MC.run1 tab 1000 rfl rfl (by first | exact True.intro | (simp only [Conds, rng, Int.toNat_natCast, List.length_append, bytesV_length] <;> omega) | (simp [Conds, rng] <;> omega) | (simp only [Conds, rng, wrap_u8, wrap_u16, wrap_u32, wrap_u64] <;> omega)) ?_) | (refine MC.la true (la_load1 hs rfl (by rfl)) rfl ?_) | (refine MC.part rfl rfl (fun h => absurd h (by first | decide | omega)) (fun _ => ?_)) | (refine MC.part rfl rfl (fun _ => ?_) (fun h => absurd (by first | decide | omega) h)) | (refine MC.cond rfl (fun h => absurd h (by first | decide | omega)) (fun _ => ?_)) | (refine MC.cond rfl (fun _ => ?_) (fun h => absurd (by first | decide | omega) h)))
                  rw [hOe]
                  refine MC.again (j + (sk + n), O) (by repeat (first | exact trivial | refine ⟨rfl, ?_⟩)) ⟨hlast.1, hlast.2.1, hlast.2.2.1, hinv.1, hinv.2, hs.tail⟩ hlast.2.2.2
                · by_cases ht2 : tx = [41]
                  · have hOe : ((o : Nat) : Int) - 1 = ((O : Nat) : Int) := by
                      rw [← hO]; unfold opens; rw [if_neg (fun h => ht1 h.2), if_pos ⟨h6, ht2⟩]; omega
                    repeat (first | (refine MC.run1 tab 1000 rfl rfl (by first | exact True.intro | (simp only [Conds, rng, Int.toNat_natCast, List.length_append, bytesV_length] <;> omega) | (simp [Conds, rng] <;> omega) | (simp only [Conds, rng, wrap_u8, wrap_u16, wrap_u32, wrap_u64] <;> omega)) ?_) | (refine MC.la true (la_load1 hs rfl (by rfl)) rfl ?_) | (refine MC.part rfl rfl (fun h => absurd h (by first | decide | omega)) (fun _ => ?_)) | (refine MC.part rfl rfl (fun _ => ?_) (fun h => absurd (by first | decide | omega) h)) | (refine MC.cond rfl (fun h => absurd h (by first | decide | omega)) (fun _ => ?_)) | (refine MC.cond rfl (fun _ => ?_) (fun h => absurd (by first | decide | omega) h)))
                    rw [hOe]
                    refine MC.again (j + (sk + n), O) (by repeat (first | exact trivial | refine ⟨rfl, ?_⟩)) ⟨hlast.1, hlast.2.1, hlast.2.2.1, hinv.1, hinv.2, hs.tail⟩ hlast.2.2.2
                  · have hOe : ((o : Nat) : Int) = ((O : Nat) : Int) := by
                      rw [← hO]; unfold opens; rw [if_neg (fun h => ht1 h.2), if_neg (fun h => ht2 h.2)]
                    repeat (first | (refine MC.run1 tab 1000 rfl rfl (by first | exact True.intro | (simp only [Conds, rng, Int.toNat_natCast, List.length_append, bytesV_length] <;> omega) | (simp [Conds, rng] <;> omega) | (simp only [Conds, rng, wrap_u8, wrap_u16, wrap_u32, wrap_u64] <;> omega)) ?_) | (refine MC.la true (la_load1 hs rfl (by rfl)) rfl ?_) | (refine MC.part rfl rfl (fun h => absurd h (by first | decide | omega)) (fun _ => ?_)) | (refine MC.part rfl rfl (fun _ => ?_) (fun h => absurd (by first | decide | omega) h)) | (refine MC.cond rfl (fun h => absurd h (by first | decide | omega)) (fun _ => ?_)) | (refine MC.cond rfl (fun _ => ?_) (fun h => absurd (by first | decide | omega) h)))
                    rw [hOe]
                    refine MC.again (j + (sk + n), O) (by repeat (first | exact trivial | refine ⟨rfl, ?_⟩)) ⟨hlast.1, hlast.2.1, hlast.2.2.1, hinv.1, hinv.2, hs.tail⟩ hlast.2.2.2
              · have h6' : ¬ ((kd : Nat) : Int) = 6 := by omega
                have hOe : ((o : Nat) : Int) = ((O : Nat) : Int) := by
                  rw [← hO]; unfold opens; rw [if_neg (fun h => h6 h.1), if_neg (fun h => h6 h.1)]
                repeat (first | (refine MC.run1 tab 1000 rfl rfl (by first | exact True.intro | (simp only [Conds, rng, Int.toNat_natCast, List.length_append, bytesV_length] <;> omega) | (simp [Conds, rng] <;> omega) | (simp only [Conds, rng, wrap_u8, wrap_u16, wrap_u32, wrap_u64] <;> omega)) ?_) | (refine MC.la true (la_load1 hs rfl (by rfl)) rfl ?_) | (refine MC.part rfl rfl (fun h => absurd h (by first | decide | omega)) (fun _ => ?_)) | (refine MC.part rfl rfl (fun _ => ?_) (fun h => absurd (by first | decide | omega) h)) | (refine MC.cond rfl (fun h => absurd h (by first | decide | omega)) (fun _ => ?_)) | (refine MC.cond rfl (fun _ => ?_) (fun h => absurd (by first | decide | omega) h)))
                rw [hOe]
                refine MC.again (j + (sk + n), O) (by repeat (first | exact trivial | refine ⟨rfl, ?_⟩)) ⟨hlast.1, hlast.2.1, hlast.2.2.1, hinv.1, hinv.2, hs.tail⟩ hlast.2.2.2
        · have hd40' : ¬ (d2.toNat : Int) = 40 := fun e => hd40 (u8i (k := 40) e)
          have hnx : quoteR nx t = (quoteR nx (s.drop (k + 2))).on (k + 2 - (p + 1)) := by
            rw [h1, e2, quoteR_back hok hd40, Q.on_on]
            congr 1; omega
          repeat (first | (refine MC.run1 tab 1000 rfl rfl (by first | exact True.intro | (simp only [Conds, rng, Int.toNat_natCast, List.length_append, bytesV_length] <;> omega) | (simp [Conds, rng] <;> omega) | (simp only [Conds, rng, wrap_u8, wrap_u16, wrap_u32, wrap_u64] <;> omega)) ?_) | (refine MC.la true (la_load1 hs rfl (by rfl)) rfl ?_) | (refine MC.part rfl rfl (fun h => absurd h (by first | decide | omega)) (fun _ => ?_)) | (refine MC.part rfl rfl (fun _ => ?_) (fun h => absurd (by first | decide | omega) h)) | (refine MC.cond rfl (fun h => absurd h (by first | decide | omega)) (fun _ => ?_)) | (refine MC.cond rfl (fun _ => ?_) (fun h => absurd (by first | decide | omega) h)))
          try rw [bk]
          repeat (first | (refine MC.run1 tab 1000 rfl rfl (by first | exact True.intro | (simp only [Conds, rng, Int.toNat_natCast, List.length_append, bytesV_length] <;> omega) | (simp [Conds, rng] <;> omega) | (simp only [Conds, rng, wrap_u8, wrap_u16, wrap_u32, wrap_u64] <;> omega)) ?_) | (refine MC.la true (la_load1 hs rfl (by rfl)) rfl ?_) | (refine MC.part rfl rfl (fun h => absurd h (by first | decide | omega)) (fun _ => ?_)) | (refine MC.part rfl rfl (fun _ => ?_) (fun h => absurd (by first | decide | omega) h)) | (refine MC.cond rfl (fun h => absurd h (by first | decide | omega)) (fun _ => ?_)) | (refine MC.cond rfl (fun _ => ?_) (fun h => absurd (by first | decide | omega) h)))
          try rw [bk]
          repeat (first | (refine MC.run1 tab 1000 rfl rfl (by first | exact True.intro | (simp only [Conds, rng, Int.toNat_natCast, List.length_append, bytesV_length] <;> omega) | (simp [Conds, rng] <;> omega) | (simp only [Conds, rng, wrap_u8, wrap_u16, wrap_u32, wrap_u64] <;> omega)) ?_) | (refine MC.la true (la_load1 hs rfl (by rfl)) rfl ?_) | (refine MC.part rfl rfl (fun h => absurd h (by first | decide | omega)) (fun _ => ?_)) | (refine MC.part rfl rfl (fun _ => ?_) (fun h => absurd (by first | decide | omega) h)) | (refine MC.cond rfl (fun h => absurd h (by first | decide | omega)) (fun _ => ?_)) | (refine MC.cond rfl (fun _ => ?_) (fun h => absurd (by first | decide | omega) h)))
          try rw [bk1]
          repeat (first | (refine MC.run1 tab 1000 rfl rfl (by first | exact True.intro | (simp only [Conds, rng, Int.toNat_natCast, List.length_append, bytesV_length] <;> omega) | (simp [Conds, rng] <;> omega) | (simp only [Conds, rng, wrap_u8, wrap_u16, wrap_u32, wrap_u64] <;> omega)) ?_) | (refine MC.la true (la_load1 hs rfl (by rfl)) rfl ?_) | (refine MC.part rfl rfl (fun h => absurd h (by first | decide | omega)) (fun _ => ?_)) | (refine MC.part rfl rfl (fun _ => ?_) (fun h => absurd (by first | decide | omega) h)) | (refine MC.cond rfl (fun h => absurd h (by first | decide | omega)) (fun _ => ?_)) | (refine MC.cond rfl (fun _ => ?_) (fun h => absurd (by first | decide | omega) h)))
          refine MC.again (k + 2) (by repeat (first | exact trivial | refine ⟨rfl, ?_⟩)) ⟨by omega, by omega, hnx, hs⟩ (by omega)
    · have n92 : (c.toNat : Int) ≠ 92 := fun e => h92 (u8i (k := 92) e)
      repeat (first | (refine MC.run1 tab 1000 rfl rfl (by first | exact True.intro | (simp only [Conds, rng, Int.toNat_natCast, List.length_append, bytesV_length] <;> omega) | (simp [Conds, rng] <;> omega) | (simp only [Conds, rng, wrap_u8, wrap_u16, wrap_u32, wrap_u64] <;> omega)) ?_) | (refine MC.la true (la_load1 hs rfl (by rfl)) rfl ?_) | (refine MC.part rfl rfl (fun h => absurd h (by first | decide | omega)) (fun _ => ?_)) | (refine MC.part rfl rfl (fun _ => ?_) (fun h => absurd (by first | decide | omega) h)) | (refine MC.cond rfl (fun h => absurd h (by first | decide | omega)) (fun _ => ?_)) | (refine MC.cond rfl (fun _ => ?_) (fun h => absurd (by first | decide | omega) h)))
      try rw [bk]
      repeat (first | (refine MC.run1 tab 1000 rfl rfl (by first | exact True.intro | (simp only [Conds, rng, Int.toNat_natCast, List.length_append, bytesV_length] <;> omega) | (simp [Conds, rng] <;> omega) | (simp only [Conds, rng, wrap_u8, wrap_u16, wrap_u32, wrap_u64] <;> omega)) ?_) | (refine MC.la true (la_load1 hs rfl (by rfl)) rfl ?_) | (refine MC.part rfl rfl (fun h => absurd h (by first | decide | omega)) (fun _ => ?_)) | (refine MC.part rfl rfl (fun _ => ?_) (fun h => absurd (by first | decide | omega) h)) | (refine MC.cond rfl (fun h => absurd h (by first | decide | omega)) (fun _ => ?_)) | (refine MC.cond rfl (fun _ => ?_) (fun h => absurd (by first | decide | omega) h)))
      try rw [bk]
      repeat (first | (refine MC.run1 tab 1000 rfl rfl (by first | exact True.intro | (simp only [Conds, rng, Int.toNat_natCast, List.length_append, bytesV_length] <;> omega) | (simp [Conds, rng] <;> omega) | (simp only [Conds, rng, wrap_u8, wrap_u16, wrap_u32, wrap_u64] <;> omega)) ?_) | (refine MC.la true (la_load1 hs rfl (by rfl)) rfl ?_) | (refine MC.part rfl rfl (fun h => absurd h (by first | decide | omega)) (fun _ => ?_)) | (refine MC.part rfl rfl (fun _ => ?_) (fun h => absurd (by first | decide | omega) h)) | (refine MC.cond rfl (fun h => absurd h (by first | decide | omega)) (fun _ => ?_)) | (refine MC.cond rfl (fun _ => ?_) (fun h => absurd (by first | decide | omega) h)))
      refine MC.again (k + 1) (by repeat (first | exact trivial | refine ⟨rfl, ?_⟩)) ⟨by omega, by omega, ?_, hs⟩ (by omega)
      rw [h1, quoteR_plain hok h34 h92, hnn, Q.on_on]
      congr 1; omega
  · rw [h1, List.drop_eq_nil_of_le hge, quoteR_nil]
    repeat (first | (refine MC.run1 tab 1000 rfl rfl (by first | exact True.intro | (simp only [Conds, rng, Int.toNat_natCast, List.length_append, bytesV_length] <;> omega) | (simp [Conds, rng] <;> omega) | (simp only [Conds, rng, wrap_u8, wrap_u16, wrap_u32, wrap_u64] <;> omega)) ?_) | (refine MC.la true (la_load1 hs rfl (by rfl)) rfl ?_) | (refine MC.part rfl rfl (fun h => absurd h (by first | decide | omega)) (fun _ => ?_)) | (refine MC.part rfl rfl (fun _ => ?_) (fun h => absurd (by first | decide | omega) h)) | (refine MC.cond rfl (fun h => absurd h (by first | decide | omega)) (fun _ => ?_)) | (refine MC.cond rfl (fun _ => ?_) (fun h => absurd (by first | decide | omega) h)))
    refine MC.ret rfl ?_
    exact ⟨rfl, hs⟩
theorem oneC_of {q : Bs → Q} {d : Int} (hq : QuotedC q d) (hqo : QOk q) (hqe : ErrOk q) : OneC (nextL q) d := oneR_spec hq hqo hqe
theorem quotedR_all : ∀ D, D ≤ 48 → QuotedC (quoteL D) ((48 - D : Nat) : Int)
  | 0, _ => quotedR_zero
  | D + 1, h => by
    have ih := quotedR_all D (by omega)
    have hn := oneC_of ih (quoteL_ok D) (errOk_L D)
    have e : ((48 - D : Nat) : Int) = ((48 - (D + 1) : Nat) : Int) + 1 := by omega
    rw [e] at hn
    exact quotedR_succ ⟨by omega, by omega⟩ hn
theorem oneR_all (D : Nat) (h : D ≤ 48) : OneC (nextD D) ((48 - D : Nat) : Int) := oneC_of (quotedR_all D h) (quoteL_ok D) (errOk_L D)
set_option maxHeartbeats 4000000 in
theorem scanR_spec {F : List Assn} {w : World} (s : Bs) (hs : Sat F w) (hl : s.length ≤ 9223372036854775807) :
    Ret Try.prog 11 [str s] w (scanP F (scanL s)) := by
  refine Ret.enter [(true, str s)] _ Try.func11 rfl Try.ntmps11 rfl ?_
  repeat (first | (refine MC.run1 tab 1000 rfl rfl (by first | exact True.intro | (simp only [Conds, rng, Int.toNat_natCast, List.length_append, bytesV_length] <;> omega) | (simp [Conds, rng] <;> omega) | (simp only [Conds, rng, wrap_u8, wrap_u16, wrap_u32, wrap_u64] <;> omega)) ?_) | (refine MC.la true (la_load1 hs rfl (by rfl)) rfl ?_) | (refine MC.part rfl rfl (fun h => absurd h (by first | decide | omega)) (fun _ => ?_)) | (refine MC.part rfl rfl (fun _ => ?_) (fun h => absurd (by first | decide | omega) h)) | (refine MC.cond rfl (fun h => absurd h (by first | decide | omega)) (fun _ => ?_)) | (refine MC.cond rfl (fun _ => ?_) (fun h => absurd (by first | decide | omega) h)))
  refine MC.cond rfl (fun hbig => ?_) (fun hsm => ?_)
  · have e : scanL s = .err 0 3 := by unfold scanL; rw [if_pos (by omega)]
    rw [e]
    repeat (first | (refine MC.run1 tab 1000 rfl rfl (by first | exact True.intro | (simp only [Conds, rng, Int.toNat_natCast, List.length_append, bytesV_length] <;> omega) | (simp [Conds, rng] <;> omega) | (simp only [Conds, rng, wrap_u8, wrap_u16, wrap_u32, wrap_u64] <;> omega)) ?_) | (refine MC.la true (la_load1 hs rfl (by rfl)) rfl ?_) | (refine MC.part rfl rfl (fun h => absurd h (by first | decide | omega)) (fun _ => ?_)) | (refine MC.part rfl rfl (fun _ => ?_) (fun h => absurd (by first | decide | omega) h)) | (refine MC.cond rfl (fun h => absurd h (by first | decide | omega)) (fun _ => ?_)) | (refine MC.cond rfl (fun _ => ?_) (fun h => absurd (by first | decide | omega) h)))
    refine MC.ret rfl ?_
    exact ⟨rfl, hs⟩
  have hsm : s.length ≤ 16384 := by omega
  rw [scanL_eq hsm]
  repeat (first | (refine MC.run1 tab 1000 rfl rfl (by first | exact True.intro | (simp only [Conds, rng, Int.toNat_natCast, List.length_append, bytesV_length] <;> omega) | (simp [Conds, rng] <;> omega) | (simp only [Conds, rng, wrap_u8, wrap_u16, wrap_u32, wrap_u64] <;> omega)) ?_) | (refine MC.la true (la_load1 hs rfl (by rfl)) rfl ?_) | (refine MC.part rfl rfl (fun h => absurd h (by first | decide | omega)) (fun _ => ?_)) | (refine MC.part rfl rfl (fun _ => ?_) (fun h => absurd (by first | decide | omega) h)) | (refine MC.cond rfl (fun h => absurd h (by first | decide | omega)) (fun _ => ?_)) | (refine MC.cond rfl (fun _ => ?_) (fun h => absurd (by first | decide | omega) h)))
  have hs := (hs.sl_nil 36 3)
  refine MC.loop (σ := Nat × List Tok × Value) (fun x => [(0, true, str s), (6, true, int ((x.1 : Nat) : Int)), (5, true, x.2.2)])
    (fun x w => x.1 ≤ s.length ∧ x.2.1.length ≤ x.1 ∧ scanR 0 s = (scanR x.1 (s.drop x.1)).app x.2.1 ∧ Sat (toks x.2.2 x.2.1 :: F) w)
    (fun x => s.length - x.1) (0, [], .slice none 0 0) (by repeat (first | exact trivial | refine ⟨rfl, ?_⟩)) ⟨Nat.zero_le _, Nat.le_refl _, by rw [Sc.app_nil]; rfl, hs⟩ ?_
  rintro ⟨k, l, v⟩ w hxs
  clear hs
  replace hxs : k ≤ s.length ∧ l.length ≤ k ∧ scanR 0 s = (scanR k (s.drop k)).app l ∧ Sat (toks v l :: F) w := hxs
  obtain ⟨hk, hlk, h1, hs⟩ := hxs
  dsimp only []
  have hnx := oneR_all 48 (Nat.le_refl _) (toks v l :: F) w k s (by omega) hk hs
  have hdl : (s.drop k).length = s.length - k := List.length_drop
  cases hx : nextD 48 (s.drop k) with
  | err a e =>
    have he : 1 ≤ e ∧ e ≤ 100 := nextD_e hx
    rw [hx] at hnx
    rw [h1, scanR_err hx]
    repeat (first | (refine MC.run1 tab 1000 rfl rfl (by first | exact True.intro | (simp only [Conds, rng, Int.toNat_natCast, List.length_append, bytesV_length] <;> omega) | (simp [Conds, rng] <;> omega) | (simp only [Conds, rng, wrap_u8, wrap_u16, wrap_u32, wrap_u64] <;> omega)) ?_) | (refine MC.la true (la_load1 hs rfl (by rfl)) rfl ?_) | (refine MC.part rfl rfl (fun h => absurd h (by first | decide | omega)) (fun _ => ?_)) | (refine MC.part rfl rfl (fun _ => ?_) (fun h => absurd (by first | decide | omega) h)) | (refine MC.cond rfl (fun h => absurd h (by first | decide | omega)) (fun _ => ?_)) | (refine MC.cond rfl (fun _ => ?_) (fun h => absurd (by first | decide | omega) h)))
    refine MC.does true (does_call rfl (hnx)) rfl ?_
    rintro _ w ⟨rfl, hs⟩
    repeat (first | (refine MC.run1 tab 1000 rfl rfl (by first | exact True.intro | (simp only [Conds, rng, Int.toNat_natCast, List.length_append, bytesV_length] <;> omega) | (simp [Conds, rng] <;> omega) | (simp only [Conds, rng, wrap_u8, wrap_u16, wrap_u32, wrap_u64] <;> omega)) ?_) | (refine MC.la true (la_load1 hs rfl (by rfl)) rfl ?_) | (refine MC.part rfl rfl (fun h => absurd h (by first | decide | omega)) (fun _ => ?_)) | (refine MC.part rfl rfl (fun _ => ?_) (fun h => absurd (by first | decide | omega) h)) | (refine MC.cond rfl (fun h => absurd h (by first | decide | omega)) (fun _ => ?_)) | (refine MC.cond rfl (fun _ => ?_) (fun h => absurd (by first | decide | omega) h)))
    refine MC.does true (does_alloc hs) rfl ?_; rintro _ w ⟨bt, rfl, hs⟩
    refine MC.does true (does_store (vs := [int 0, str [], int 0]) hs rfl rfl rfl rfl (by first | (intro u hu; simp only [List.mem_cons, List.not_mem_nil, or_false] at hu; rcases hu with rfl | rfl | rfl | rfl | rfl | rfl | rfl | rfl <;> rfl) | (intro u hu; simp only [List.mem_cons, List.not_mem_nil, or_false] at hu; rcases hu with rfl | rfl | rfl | rfl <;> rfl) | (intro u hu; simp only [List.mem_cons, List.not_mem_nil, or_false] at hu; rcases hu with rfl | rfl <;> rfl) | (intro u hu; simp only [List.mem_cons, List.not_mem_nil, or_false] at hu; subst hu; rfl)) (by simp)) rfl ?_; intro _ w hs
    repeat (first | (refine MC.run1 tab 1000 rfl rfl (by first | exact True.intro | (simp only [Conds, rng, Int.toNat_natCast, List.length_append, bytesV_length] <;> omega) | (simp [Conds, rng] <;> omega) | (simp only [Conds, rng, wrap_u8, wrap_u16, wrap_u32, wrap_u64] <;> omega)) ?_) | (refine MC.la true (la_load1 hs rfl (by rfl)) rfl ?_) | (refine MC.part rfl rfl (fun h => absurd h (by first | decide | omega)) (fun _ => ?_)) | (refine MC.part rfl rfl (fun _ => ?_) (fun h => absurd (by first | decide | omega) h)) | (refine MC.cond rfl (fun h => absurd h (by first | decide | omega)) (fun _ => ?_)) | (refine MC.cond rfl (fun _ => ?_) (fun h => absurd (by first | decide | omega) h)))
    refine MC.ret rfl ?_
    exact ⟨rfl, hs.tail.tail⟩
  | none =>
    rw [hx] at hnx
    rw [h1, scanR_none hx]
    repeat (first | (refine MC.run1 tab 1000 rfl rfl (by first | exact True.intro | (simp only [Conds, rng, Int.toNat_natCast, List.length_append, bytesV_length] <;> omega) | (simp [Conds, rng] <;> omega) | (simp only [Conds, rng, wrap_u8, wrap_u16, wrap_u32, wrap_u64] <;> omega)) ?_) | (refine MC.la true (la_load1 hs rfl (by rfl)) rfl ?_) | (refine MC.part rfl rfl (fun h => absurd h (by first | decide | omega)) (fun _ => ?_)) | (refine MC.part rfl rfl (fun _ => ?_) (fun h => absurd (by first | decide | omega) h)) | (refine MC.cond rfl (fun h => absurd h (by first | decide | omega)) (fun _ => ?_)) | (refine MC.cond rfl (fun _ => ?_) (fun h => absurd (by first | decide | omega) h)))
    refine MC.does true (does_call rfl (hnx)) rfl ?_
    rintro _ w ⟨rfl, hs⟩
    repeat (first | (refine MC.run1 tab 1000 rfl rfl (by first | exact True.intro | (simp only [Conds, rng, Int.toNat_natCast, List.length_append, bytesV_length] <;> omega) | (simp [Conds, rng] <;> omega) | (simp only [Conds, rng, wrap_u8, wrap_u16, wrap_u32, wrap_u64] <;> omega)) ?_) | (refine MC.la true (la_load1 hs rfl (by rfl)) rfl ?_) | (refine MC.part rfl rfl (fun h => absurd h (by first | decide | omega)) (fun _ => ?_)) | (refine MC.part rfl rfl (fun _ => ?_) (fun h => absurd (by first | decide | omega) h)) | (refine MC.cond rfl (fun h => absurd h (by first | decide | omega)) (fun _ => ?_)) | (refine MC.cond rfl (fun _ => ?_) (fun h => absurd (by first | decide | omega) h)))
    refine MC.does true (does_alloc hs) rfl ?_; rintro _ w ⟨bt, rfl, hs⟩
    refine MC.does true (does_store (vs := [int 0, str [], int 0]) hs rfl rfl rfl rfl (by first | (intro u hu; simp only [List.mem_cons, List.not_mem_nil, or_false] at hu; rcases hu with rfl | rfl | rfl | rfl | rfl | rfl | rfl | rfl <;> rfl) | (intro u hu; simp only [List.mem_cons, List.not_mem_nil, or_false] at hu; rcases hu with rfl | rfl | rfl | rfl <;> rfl) | (intro u hu; simp only [List.mem_cons, List.not_mem_nil, or_false] at hu; rcases hu with rfl | rfl <;> rfl) | (intro u hu; simp only [List.mem_cons, List.not_mem_nil, or_false] at hu; subst hu; rfl)) (by simp)) rfl ?_; intro _ w hs
    repeat (first | (refine MC.run1 tab 1000 rfl rfl (by first | exact True.intro | (simp only [Conds, rng, Int.toNat_natCast, List.length_append, bytesV_length] <;> omega) | (simp [Conds, rng] <;> omega) | (simp only [Conds, rng, wrap_u8, wrap_u16, wrap_u32, wrap_u64] <;> omega)) ?_) | (refine MC.la true (la_load1 hs rfl (by rfl)) rfl ?_) | (refine MC.part rfl rfl (fun h => absurd h (by first | decide | omega)) (fun _ => ?_)) | (refine MC.part rfl rfl (fun _ => ?_) (fun h => absurd (by first | decide | omega) h)) | (refine MC.cond rfl (fun h => absurd h (by first | decide | omega)) (fun _ => ?_)) | (refine MC.cond rfl (fun _ => ?_) (fun h => absurd (by first | decide | omega) h)))
    refine MC.ret rfl ?_
    refine ⟨v, rfl, ?_⟩
    rw [List.append_nil]
    exact hs.tail
  | tok sk n kd tx =>
    have hb := nextD_ok 48 _ _ _ _ _ hx
    rw [hx] at hnx
    rw [scanR_step hx, List.drop_drop, Sc.put_app] at h1
    repeat (first | (refine MC.run1 tab 1000 rfl rfl (by first | exact True.intro | (simp only [Conds, rng, Int.toNat_natCast, List.length_append, bytesV_length] <;> omega) | (simp [Conds, rng] <;> omega) | (simp only [Conds, rng, wrap_u8, wrap_u16, wrap_u32, wrap_u64] <;> omega)) ?_) | (refine MC.la true (la_load1 hs rfl (by rfl)) rfl ?_) | (refine MC.part rfl rfl (fun h => absurd h (by first | decide | omega)) (fun _ => ?_)) | (refine MC.part rfl rfl (fun _ => ?_) (fun h => absurd (by first | decide | omega) h)) | (refine MC.cond rfl (fun h => absurd h (by first | decide | omega)) (fun _ => ?_)) | (refine MC.cond rfl (fun _ => ?_) (fun h => absurd (by first | decide | omega) h)))
    refine MC.does true (does_call rfl (hnx)) rfl ?_
    rintro _ w ⟨rfl, hs⟩
    repeat (first | (refine MC.run1 tab 1000 rfl rfl (by first | exact True.intro | (simp only [Conds, rng, Int.toNat_natCast, List.length_append, bytesV_length] <;> omega) | (simp [Conds, rng] <;> omega) | (simp only [Conds, rng, wrap_u8, wrap_u16, wrap_u32, wrap_u64] <;> omega)) ?_) | (refine MC.la true (la_load1 hs rfl (by rfl)) rfl ?_) | (refine MC.part rfl rfl (fun h => absurd h (by first | decide | omega)) (fun _ => ?_)) | (refine MC.part rfl rfl (fun _ => ?_) (fun h => absurd (by first | decide | omega) h)) | (refine MC.cond rfl (fun h => absurd h (by first | decide | omega)) (fun _ => ?_)) | (refine MC.cond rfl (fun _ => ?_) (fun h => absurd (by first | decide | omega) h)))
    refine MC.does true (does_alloc hs) rfl ?_; rintro _ w ⟨bt, rfl, hs⟩
    refine MC.does true (does_store (vs := [int ((kd : Nat) : Int), str tx, int ((k + sk : Nat) : Int)]) hs rfl rfl rfl rfl (by first | (intro u hu; simp only [List.mem_cons, List.not_mem_nil, or_false] at hu; rcases hu with rfl | rfl | rfl | rfl | rfl | rfl | rfl | rfl <;> rfl) | (intro u hu; simp only [List.mem_cons, List.not_mem_nil, or_false] at hu; rcases hu with rfl | rfl | rfl | rfl <;> rfl) | (intro u hu; simp only [List.mem_cons, List.not_mem_nil, or_false] at hu; rcases hu with rfl | rfl <;> rfl) | (intro u hu; simp only [List.mem_cons, List.not_mem_nil, or_false] at hu; subst hu; rfl)) (by simp)) rfl ?_; intro _ w hs
    have hs : Sat (blk bt [int ((kd : Nat) : Int), str tx, int ((k + sk : Nat) : Int)] 36 :: toks v l :: F) w := hs
    repeat (first | (refine MC.run1 tab 1000 rfl rfl (by first | exact True.intro | (simp only [Conds, rng, Int.toNat_natCast, List.length_append, bytesV_length] <;> omega) | (simp [Conds, rng] <;> omega) | (simp only [Conds, rng, wrap_u8, wrap_u16, wrap_u32, wrap_u64] <;> omega)) ?_) | (refine MC.la true (la_load1 hs rfl (by rfl)) rfl ?_) | (refine MC.part rfl rfl (fun h => absurd h (by first | decide | omega)) (fun _ => ?_)) | (refine MC.part rfl rfl (fun _ => ?_) (fun h => absurd (by first | decide | omega) h)) | (refine MC.cond rfl (fun h => absurd h (by first | decide | omega)) (fun _ => ?_)) | (refine MC.cond rfl (fun _ => ?_) (fun h => absurd (by first | decide | omega) h)))
    refine MC.la true (la_loadV hs rfl (vs := [int ((kd : Nat) : Int), str tx, int ((k + sk : Nat) : Int)]) rfl rfl rfl) rfl ?_
    refine MC.does true (does_buildSlice (ls := [(0, [int ((kd : Nat) : Int), str tx, int ((k + sk : Nat) : Int)])]) (out := [int ((kd : Nat) : Int), str tx, int ((k + sk : Nat) : Int)]) hs rfl rfl (by exact ⟨⟨0, rfl, by simp [rep_length]⟩, trivial⟩) (by exact congrArg some (splice_all (by simp [rep_length]))) (by rfl)) rfl ?_
    rintro _ w ⟨b1, rfl, hs⟩
    refine MC.does true (does_append hs rfl rfl (src_at rfl (tok_one kd (k + sk) tx)) (by omega) (by omega)) rfl ?_
    intro va w hs
    repeat (first | (refine MC.run1 tab 1000 rfl rfl (by first | exact True.intro | (simp only [Conds, rng, Int.toNat_natCast, List.length_append, bytesV_length] <;> omega) | (simp [Conds, rng] <;> omega) | (simp only [Conds, rng, wrap_u8, wrap_u16, wrap_u32, wrap_u64] <;> omega)) ?_) | (refine MC.la true (la_load1 hs rfl (by rfl)) rfl ?_) | (refine MC.part rfl rfl (fun h => absurd h (by first | decide | omega)) (fun _ => ?_)) | (refine MC.part rfl rfl (fun _ => ?_) (fun h => absurd (by first | decide | omega) h)) | (refine MC.cond rfl (fun h => absurd h (by first | decide | omega)) (fun _ => ?_)) | (refine MC.cond rfl (fun _ => ?_) (fun h => absurd (by first | decide | omega) h)))
    refine MC.again (k + (sk + n), l ++ [(kd, tx, k + sk)], va) (by repeat (first | exact trivial | refine ⟨rfl, ?_⟩)) ⟨?_, ?_, h1, ?_⟩ ?_
    · show k + (sk + n) ≤ s.length; omega
    · show (l ++ [(kd, tx, k + sk)]).length ≤ k + (sk + n)
      rw [List.length_append]; simp; omega
    · show Sat (sl va _ 3 (l ++ [(kd, tx, k + sk)]).length (tokC (l ++ [(kd, tx, k + sk)])) :: F) w
      rw [List.length_append, tokC_snoc]
      exact hs.tail.tail
    · show s.length - (k + (sk + n)) < s.length - k; omega
end Go.Proofs.Ytcahpllliflloaa
