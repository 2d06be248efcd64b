/- Tokens: texts in quotes. -/
import Derived.Test.YtcahpllliflloaaKf
import Derived.Test.YtcahpllliflloaaKs
set_option linter.unusedVariables false
set_option linter.unusedSimpArgs false
namespace Go.Tk
/-- The errors have numbers. -/
def eok (e : Nat) : Prop := 1 ≤ e ∧ e ≤ 100
theorem nextL_e {q : Bs → Q} (hq : ∀ r a e, q r = .err a e → eok e) {r : Bs} {a e : Nat} (h : nextL q r = .err a e) : eok e := by
  rw [nextL_pick] at h
  split at h
  · cases h
  · split at h
    · split at h
      · cases h
      · injection h with h1 h2; subst h2; exact ⟨by decide, by decide⟩
      · rename_i a' e' hqq
        injection h with h1 h2; subst h2
        exact hq _ _ _ hqq
    · split at h
      · injection h with h1 h2; subst h2; exact ⟨by decide, by decide⟩
      · cases h
theorem innerL_e {nx : Bs → Nx} (hok : NOk nx) (hn : ∀ r a e, nx r = .err a e → eok e) : ∀ (f : Nat) (r : Bs) (o a e : Nat), r.length < f → innerL nx r o = .err a e → eok e
  | 0, r, o, a, e, hf, h => by omega
  | f + 1, r, o, a, e, hf, h => by
    cases hx : nx r with
    | err a' e' => rw [innerL_err hx] at h; injection h with h1 h2; subst h2; exact hn _ _ _ hx
    | none => rw [innerL_none hx] at h; cases h
    | tok sk n k t =>
      have hb := hok _ _ _ _ _ hx
      rw [innerL_step hok hx] at h
      split at h
      · cases h
      · cases hi : innerL nx (r.drop (sk + n)) (opens o k t) with
        | ok j => rw [hi] at h; cases h
        | text => rw [hi] at h; cases h
        | err a' e' =>
          rw [hi] at h; injection h with h1 h2; subst h2
          exact innerL_e hok hn f _ _ _ _ (by rw [List.length_drop]; omega) hi
theorem quoteR_e {nx : Bs → Nx} (hok : NOk nx) (hn : ∀ r a e, nx r = .err a e → eok e) : ∀ (f : Nat) (r : Bs) (a e : Nat), r.length < f → quoteR nx r = .err a e → eok e
  | 0, r, a, e, hf, h => by omega
  | f + 1, r, a, e, hf, h => by
    cases r with
    | nil => rw [quoteR_nil] at h; cases h
    | cons c u =>
      simp only [List.length_cons] at hf
      by_cases h34 : c = 34
      · subst h34; rw [quoteR_end] at h; cases h
      by_cases h92 : c = 92
      · subst h92
        cases u with
        | nil => rw [quoteR_last] at h; cases h
        | cons d u =>
          simp only [List.length_cons] at hf
          by_cases hd : d = 40
          · subst hd
            rw [quoteR_in hok] at h
            cases hi : innerL nx u 1 with
            | ok j =>
              rw [hi] at h; dsimp only [] at h
              cases hq : quoteR nx (u.drop j) with
              | ok i => rw [hq] at h; cases h
              | text => rw [hq] at h; cases h
              | err a' e' =>
                rw [hq] at h; injection h with h1 h2; subst h2
                exact quoteR_e hok hn f _ _ _ (by rw [List.length_drop]; omega) hq
            | text => rw [hi] at h; cases h
            | err a' e' =>
              rw [hi] at h; injection h with h1 h2; subst h2
              exact innerL_e hok hn _ u 1 a' e' (Nat.lt_succ_self _) hi
          · rw [quoteR_back hok hd] at h
            cases hq : quoteR nx u with
            | ok i => rw [hq] at h; cases h
            | text => rw [hq] at h; cases h
            | err a' e' => rw [hq] at h; injection h with h1 h2; subst h2; exact quoteR_e hok hn f u _ _ (by omega) hq
      · rw [quoteR_plain hok h34 h92] at h
        cases hq : quoteR nx u with
        | ok i => rw [hq] at h; cases h
        | text => rw [hq] at h; cases h
        | err a' e' => rw [hq] at h; injection h with h1 h2; subst h2; exact quoteR_e hok hn f u _ _ (by omega) hq
theorem quoteL_e : ∀ d (r : Bs) (a e : Nat), quoteL d r = .err a e → eok e
  | 0, r, a, e, h => by injection h with h1 h2; subst h2; exact ⟨by decide, by decide⟩
  | d + 1, r, a, e, h => by
    simp only [quoteL] at h
    cases hq : quoteR (nextL (quoteL d)) (r.drop 1) with
    | ok m => rw [hq] at h; cases h
    | text => rw [hq] at h; cases h
    | err a' e' =>
      rw [hq] at h; injection h with h1 h2; subst h2
      exact quoteR_e (next_ok (quoteL_ok d)) (fun r a e h => nextL_e (quoteL_e d) h) _ _ _ _ (Nat.lt_succ_self _) hq
theorem nextD_e {d : Nat} {r : Bs} {a e : Nat} (h : nextD d r = .err a e) : eok e := nextL_e (quoteL_e d) h
end Go.Tk
namespace Go.Proofs.Ytcahpllliflloaa
open Go Go.Sl Go.Tk
attribute [local irreducible] LooksAt

theorem errOk_L (D : Nat) : ErrOk (quoteL D) := fun r a e h => by
  have h1 := quoteL_e D r a e h
  refine ⟨h1.1, h1.2, ?_⟩
  rcases Nat.eq_zero_or_pos r.length with h0 | h0
  · have : r = [] := List.eq_nil_of_length_eq_zero h0
    subst this
    cases D with
    | zero => injection h with h2 h3; omega
    | succ D => simp [quoteL, quoteR_nil, Q.on] at h
  · have := quoteL_errAt D r a e h h0; omega
theorem pre_nil {c : UInt8} : Lib.hasPrefix [] [c] = false := rfl
theorem pre_cons {c d : UInt8} {t : Bs} : Lib.hasPrefix (c :: t) [d] = decide (c = d) := by
  simp only [Lib.hasPrefix, List.isPrefixOf, Bool.and_true]
  by_cases h : c = d
  · subst h; simp
  · rw [decide_eq_false h]
    exact beq_eq_false_iff_ne.2 (Ne.symm h)
theorem nextC_of {q : Bs → Q} {d : Int} (hq : QuoteC q d) (hqo : QOk q) (hqe : ErrOk q) : NextC (nextL q) d := fun F w b p s hM hl hp hs => next_spec hq hqo hqe hM hl hp hs
theorem quote_zero : QuoteC (quoteL 0) 48 := by
  intro F w b p s t hM hl hr hs
  obtain ⟨_, hlt, _⟩ := at_drop hr
  refine Ret.enter [(true, ptr b), (true, int 48)] _ Try.func22 rfl Try.ntmps22 rfl ?_
  repeat (first | (refine MC.run1 tab 1000 rfl rfl (by first | exact True.intro | (simp only [Conds, rng, Int.toNat_natCast, List.length_append, bytesV_length] <;> omega) | (simp [Conds, rng] <;> omega) | (simp only [Conds, rng, wrap_u8, wrap_u16, wrap_u32, wrap_u64] <;> omega)) ?_) | (refine MC.la true (la_load1 hs rfl (by rfl)) rfl ?_) | (refine MC.part rfl rfl (fun h => absurd h (by first | decide | omega)) (fun _ => ?_)) | (refine MC.part rfl rfl (fun _ => ?_) (fun h => absurd (by first | decide | omega) h)) | (refine MC.cond rfl (fun h => absurd h (by first | decide | omega)) (fun _ => ?_)) | (refine MC.cond rfl (fun _ => ?_) (fun h => absurd (by first | decide | omega) h)))
  refine MC.ret rfl ?_
  exact ⟨rfl, p, by omega, hs⟩
set_option maxHeartbeats 4000000 in
theorem quote_succ {D : Nat} {d : Int} (hd0 : 0 ≤ d ∧ d ≤ 47) (hn : NextC (nextL (quoteL D)) (d + 1)) : QuoteC (quoteL (D + 1)) d := by
  intro F w b p s t hM hl hr hs
  obtain ⟨_, hlt, hp1⟩ := at_drop hr
  have hok : NOk (nextL (quoteL D)) := next_ok (quoteL_ok D)
  have hne : NErr (nextL (quoteL D)) := fun r a e h => nextL_e (quoteL_e D) h
  have hq0 : quoteL (D + 1) (34 :: t) = (quoteR (nextL (quoteL D)) t).on 1 := rfl
  rw [hq0]
  clear hq0
  revert hn hok hne
  generalize nextL (quoteL D) = nx
  intro hn hok hne
  refine Ret.enter [(true, ptr b), (true, int d)] _ Try.func22 rfl Try.ntmps22 rfl ?_
  repeat (first | (refine MC.run1 tab 1000 rfl rfl (by first | exact True.intro | (simp only [Conds, rng, Int.toNat_natCast, List.length_append, bytesV_length] <;> omega) | (simp [Conds, rng] <;> omega) | (simp only [Conds, rng, wrap_u8, wrap_u16, wrap_u32, wrap_u64] <;> omega)) ?_) | (refine MC.la true (la_load1 hs rfl (by rfl)) rfl ?_) | (refine MC.part rfl rfl (fun h => absurd h (by first | decide | omega)) (fun _ => ?_)) | (refine MC.part rfl rfl (fun _ => ?_) (fun h => absurd (by first | decide | omega) h)) | (refine MC.cond rfl (fun h => absurd h (by first | decide | omega)) (fun _ => ?_)) | (refine MC.cond rfl (fun _ => ?_) (fun h => absurd (by first | decide | omega) h)))
  refine MC.does true (does_store1 hs rfl rfl rfl (by first | decide | (simp; done) | (simp; omega))) rfl ?_; intro _ w hs
  repeat (first | (refine MC.run1 tab 1000 rfl rfl (by first | exact True.intro | (simp only [Conds, rng, Int.toNat_natCast, List.length_append, bytesV_length] <;> omega) | (simp [Conds, rng] <;> omega) | (simp only [Conds, rng, wrap_u8, wrap_u16, wrap_u32, wrap_u64] <;> omega)) ?_) | (refine MC.la true (la_load1 hs rfl (by rfl)) rfl ?_) | (refine MC.part rfl rfl (fun h => absurd h (by first | decide | omega)) (fun _ => ?_)) | (refine MC.part rfl rfl (fun _ => ?_) (fun h => absurd (by first | decide | omega) h)) | (refine MC.cond rfl (fun h => absurd h (by first | decide | omega)) (fun _ => ?_)) | (refine MC.cond rfl (fun _ => ?_) (fun h => absurd (by first | decide | omega) h)))
  refine MC.loop (σ := Nat) (fun _ => [(0, true, ptr b), (1, true, int d), (6, true, int ((p : Nat) : Int))])
    (fun k w => p + 1 ≤ k ∧ k ≤ s.length ∧ quoteR nx t = (quoteR nx (s.drop k)).on (k - (p + 1)) ∧ Sat (scn b s k :: F) w)
    (fun k => s.length - k) (p + 1) (by repeat (first | exact trivial | refine ⟨rfl, ?_⟩)) ⟨Nat.le_refl _, by omega, by rw [hp1, Nat.sub_self, Q.on_zero], hs⟩ ?_
  rintro k w hxs
  clear hs
  obtain ⟨hpk, hk, h1, hs⟩ := hxs
  repeat (first | (refine MC.run1 tab 1000 rfl rfl (by first | exact True.intro | (simp only [Conds, rng, Int.toNat_natCast, List.length_append, bytesV_length] <;> omega) | (simp [Conds, rng] <;> omega) | (simp only [Conds, rng, wrap_u8, wrap_u16, wrap_u32, wrap_u64] <;> omega)) ?_) | (refine MC.la true (la_load1 hs rfl (by rfl)) rfl ?_) | (refine MC.part rfl rfl (fun h => absurd h (by first | decide | omega)) (fun _ => ?_)) | (refine MC.part rfl rfl (fun _ => ?_) (fun h => absurd (by first | decide | omega) h)) | (refine MC.cond rfl (fun h => absurd h (by first | decide | omega)) (fun _ => ?_)) | (refine MC.cond rfl (fun _ => ?_) (fun h => absurd (by first | decide | omega) h)))
  refine MC.draw hs [0,1,2,3,4,5,6,7,8,9] (by rfl) ?_; intro w hs
  repeat (first | (refine MC.run1 tab 1000 rfl rfl (by first | exact True.intro | (simp only [Conds, rng, Int.toNat_natCast, List.length_append, bytesV_length] <;> omega) | (simp [Conds, rng] <;> omega) | (simp only [Conds, rng, wrap_u8, wrap_u16, wrap_u32, wrap_u64] <;> omega)) ?_) | (refine MC.laD true (la_load1 hs rfl (by rfl)) rfl ?_) | (refine MC.part rfl rfl (fun h => absurd h (by first | decide | omega)) (fun _ => ?_)) | (refine MC.part rfl rfl (fun _ => ?_) (fun h => absurd (by first | decide | omega) h)) | (refine MC.cond rfl (fun h => absurd h (by first | decide | omega)) (fun _ => ?_)) | (refine MC.cond rfl (fun _ => ?_) (fun h => absurd (by first | decide | omega) h)))
  rcases Nat.lt_or_ge k s.length with hlk | hge
  · obtain ⟨c, u, hu⟩ := drop_lt hlk
    obtain ⟨bk, _, hnn⟩ := at_drop hu
    have hcb := UInt8.toNat_lt c
    have hul : u.length = s.length - (k + 1) := by rw [← hnn, List.length_drop]
    rw [hu] at h1
    repeat (first | (refine MC.run1 tab 1000 rfl rfl (by first | exact True.intro | (simp only [Conds, rng, Int.toNat_natCast, List.length_append, bytesV_length] <;> omega) | (simp [Conds, rng] <;> omega) | (simp only [Conds, rng, wrap_u8, wrap_u16, wrap_u32, wrap_u64] <;> omega)) ?_) | (refine MC.la true (la_load1 hs rfl (by rfl)) rfl ?_) | (refine MC.part rfl rfl (fun h => absurd h (by first | decide | omega)) (fun _ => ?_)) | (refine MC.part rfl rfl (fun _ => ?_) (fun h => absurd (by first | decide | omega) h)) | (refine MC.cond rfl (fun h => absurd h (by first | decide | omega)) (fun _ => ?_)) | (refine MC.cond rfl (fun _ => ?_) (fun h => absurd (by first | decide | omega) h)))
    refine MC.draw hs [0,1,2,3,4,5,6,7,8,9] (by rfl) ?_; intro w hs
    repeat (first | (refine MC.run1 tab 1000 rfl rfl (by first | exact True.intro | (simp only [Conds, rng, Int.toNat_natCast, List.length_append, bytesV_length] <;> omega) | (simp [Conds, rng] <;> omega) | (simp only [Conds, rng, wrap_u8, wrap_u16, wrap_u32, wrap_u64] <;> omega)) ?_) | (refine MC.laD true (la_load1 hs rfl (by rfl)) rfl ?_) | (refine MC.part rfl rfl (fun h => absurd h (by first | decide | omega)) (fun _ => ?_)) | (refine MC.part rfl rfl (fun _ => ?_) (fun h => absurd (by first | decide | omega) h)) | (refine MC.cond rfl (fun h => absurd h (by first | decide | omega)) (fun _ => ?_)) | (refine MC.cond rfl (fun _ => ?_) (fun h => absurd (by first | decide | omega) h)))
    rw [bk]
    by_cases h34 : c = 34
    · have h34' : (c.toNat : Int) = 34 := by rw [h34]; rfl
      rw [h1, h34, quoteR_end]
      repeat (first | (refine MC.run1 tab 1000 rfl rfl (by first | exact True.intro | (simp only [Conds, rng, Int.toNat_natCast, List.length_append, bytesV_length] <;> omega) | (simp [Conds, rng] <;> omega) | (simp only [Conds, rng, wrap_u8, wrap_u16, wrap_u32, wrap_u64] <;> omega)) ?_) | (refine MC.la true (la_load1 hs rfl (by rfl)) rfl ?_) | (refine MC.part rfl rfl (fun h => absurd h (by first | decide | omega)) (fun _ => ?_)) | (refine MC.part rfl rfl (fun _ => ?_) (fun h => absurd (by first | decide | omega) h)) | (refine MC.cond rfl (fun h => absurd h (by first | decide | omega)) (fun _ => ?_)) | (refine MC.cond rfl (fun _ => ?_) (fun h => absurd (by first | decide | omega) h)))
      refine MC.does true (does_store1 hs rfl rfl rfl (by first | decide | (simp; done) | (simp; omega))) rfl ?_; intro _ w hs
      repeat (first | (refine MC.run1 tab 1000 rfl rfl (by first | exact True.intro | (simp only [Conds, rng, Int.toNat_natCast, List.length_append, bytesV_length] <;> omega) | (simp [Conds, rng] <;> omega) | (simp only [Conds, rng, wrap_u8, wrap_u16, wrap_u32, wrap_u64] <;> omega)) ?_) | (refine MC.la true (la_load1 hs rfl (by rfl)) rfl ?_) | (refine MC.part rfl rfl (fun h => absurd h (by first | decide | omega)) (fun _ => ?_)) | (refine MC.part rfl rfl (fun _ => ?_) (fun h => absurd (by first | decide | omega) h)) | (refine MC.cond rfl (fun h => absurd h (by first | decide | omega)) (fun _ => ?_)) | (refine MC.cond rfl (fun _ => ?_) (fun h => absurd (by first | decide | omega) h)))
      refine MC.ret rfl ?_
      have e : k + 1 = p + (1 + (k - (p + 1) + 1)) := by omega
      refine ⟨rfl, ?_⟩
      have hs : Sat (scn b s (k + 1) :: F) w := hs
      rw [e] at hs
      exact hs
    have n34 : (c.toNat : Int) ≠ 34 := fun e => h34 (u8i (k := 34) e)
    by_cases h92 : c = 92
    · have h92' : (c.toNat : Int) = 92 := by rw [h92]; rfl
      have hdk : s.drop (((k : Nat) : Int) + 1).toNat = u := hnn
      obtain ⟨B, hB⟩ : ∃ B, Lib.hasPrefix u [40] = B := ⟨_, rfl⟩
      rw [h92] at h1
      repeat (first | (refine MC.run1 tab 1000 rfl rfl (by first | exact True.intro | (simp only [Conds, rng, Int.toNat_natCast, List.length_append, bytesV_length] <;> omega) | (simp [Conds, rng] <;> omega) | (simp only [Conds, rng, wrap_u8, wrap_u16, wrap_u32, wrap_u64] <;> omega)) ?_) | (refine MC.la true (la_load1 hs rfl (by rfl)) rfl ?_) | (refine MC.part rfl rfl (fun h => absurd h (by first | decide | omega)) (fun _ => ?_)) | (refine MC.part rfl rfl (fun _ => ?_) (fun h => absurd (by first | decide | omega) h)) | (refine MC.cond rfl (fun h => absurd h (by first | decide | omega)) (fun _ => ?_)) | (refine MC.cond rfl (fun _ => ?_) (fun h => absurd (by first | decide | omega) h)))
      refine MC.draw hs [0,1,2,3,4,5,6,7,8,9,10,11,12,13,14,15] (by rfl) ?_; intro w hs
      repeat (first | (refine MC.run1 tab 1000 rfl rfl (by first | exact True.intro | (simp only [Conds, rng, Int.toNat_natCast, List.length_append, bytesV_length] <;> omega) | (simp [Conds, rng] <;> omega) | (simp only [Conds, rng, wrap_u8, wrap_u16, wrap_u32, wrap_u64] <;> omega)) ?_) | (refine MC.laD true (la_load1 hs rfl (by rfl)) rfl ?_) | (refine MC.part rfl rfl (fun h => absurd h (by first | decide | omega)) (fun _ => ?_)) | (refine MC.part rfl rfl (fun _ => ?_) (fun h => absurd (by first | decide | omega) h)) | (refine MC.cond rfl (fun h => absurd h (by first | decide | omega)) (fun _ => ?_)) | (refine MC.cond rfl (fun _ => ?_) (fun h => absurd (by first | decide | omega) h)))
      rw [hdk]
      have hpf := prefix_spec (w := w) u [40]
      rw [hB] at hpf
      refine MC.doesK true (does_call rfl hpf) rfl rfl rfl ?_
      rintro _ w' ⟨rfl, rfl⟩
      refine ⟨(by repeat (first | exact True.intro | refine ⟨At.sat hs, ?_⟩ | refine ⟨Suf.sat hs, ?_⟩)), ?_⟩
      cases B with
      | false =>
        have hnx : quoteR nx t = (quoteR nx (s.drop (min s.length (k + 2)))).on (min s.length (k + 2) - (p + 1)) := by
          rw [h1]
          cases u with
          | nil =>
            simp only [List.length_nil] at hul
            have e1 : min s.length (k + 2) = s.length := by omega
            rw [e1, List.drop_length, quoteR_last, quoteR_nil]; rfl
          | cons d2 v =>
            have hne40 : d2 ≠ 40 := by
              rintro rfl
              rw [pre_cons] at hB
              exact absurd hB (by decide)
            simp only [List.length_cons] at hul
            have e1 : min s.length (k + 2) = k + 2 := by omega
            have e2 : s.drop (k + 2) = v := by rw [show k + 2 = (k + 1) + 1 from rfl, ← List.drop_drop, hnn]; rfl
            rw [e1, e2, quoteR_back hok hne40, Q.on_on]
            congr 1; omega
        have hmin : min ((s.length : Nat) : Int) (((k : Nat) : Int) + 2) = ((min s.length (k + 2) : Nat) : Int) := by omega
        repeat (first | (refine MC.run1 tab 1000 rfl rfl (by first | exact True.intro | (simp only [Conds, rng, Int.toNat_natCast, List.length_append, bytesV_length] <;> omega) | (simp [Conds, rng] <;> omega) | (simp only [Conds, rng, wrap_u8, wrap_u16, wrap_u32, wrap_u64] <;> omega)) ?_) | (refine MC.laD true (la_load1 hs rfl (by rfl)) rfl ?_) | (refine MC.part rfl rfl (fun h => absurd h (by first | decide | omega)) (fun _ => ?_)) | (refine MC.part rfl rfl (fun _ => ?_) (fun h => absurd (by first | decide | omega) h)) | (refine MC.cond rfl (fun h => absurd h (by first | decide | omega)) (fun _ => ?_)) | (refine MC.cond rfl (fun _ => ?_) (fun h => absurd (by first | decide | omega) h)))
        repeat (first | (refine MC.run1 tab 1000 rfl rfl (by first | exact True.intro | (simp only [Conds, rng, Int.toNat_natCast, List.length_append, bytesV_length] <;> omega) | (simp [Conds, rng] <;> omega) | (simp only [Conds, rng, wrap_u8, wrap_u16, wrap_u32, wrap_u64] <;> omega)) ?_) | (refine MC.la true (la_load1 hs rfl (by rfl)) rfl ?_) | (refine MC.part rfl rfl (fun h => absurd h (by first | decide | omega)) (fun _ => ?_)) | (refine MC.part rfl rfl (fun _ => ?_) (fun h => absurd (by first | decide | omega) h)) | (refine MC.cond rfl (fun h => absurd h (by first | decide | omega)) (fun _ => ?_)) | (refine MC.cond rfl (fun _ => ?_) (fun h => absurd (by first | decide | omega) h)))
        refine MC.draw hs [0,1,2,3,4,5,6,7,8,9,10,11,12,13,14] (by rfl) ?_; intro w hs
        repeat (first | (refine MC.run1 tab 1000 rfl rfl (by first | exact True.intro | (simp only [Conds, rng, Int.toNat_natCast, List.length_append, bytesV_length] <;> omega) | (simp [Conds, rng] <;> omega) | (simp only [Conds, rng, wrap_u8, wrap_u16, wrap_u32, wrap_u64] <;> omega)) ?_) | (refine MC.laD true (la_load1 hs rfl (by rfl)) rfl ?_) | (refine MC.part rfl rfl (fun h => absurd h (by first | decide | omega)) (fun _ => ?_)) | (refine MC.part rfl rfl (fun _ => ?_) (fun h => absurd (by first | decide | omega) h)) | (refine MC.cond rfl (fun h => absurd h (by first | decide | omega)) (fun _ => ?_)) | (refine MC.cond rfl (fun _ => ?_) (fun h => absurd (by first | decide | omega) h)))
        rw [hmin]
        refine MC.doesD true (does_store1 hs rfl rfl rfl (by first | decide | (simp; done) | (simp; omega))) rfl rfl rfl rfl ?_; intro _ w hs
        repeat (first | (refine MC.run1 tab 1000 rfl rfl (by first | exact True.intro | (simp only [Conds, rng, Int.toNat_natCast, List.length_append, bytesV_length] <;> omega) | (simp [Conds, rng] <;> omega) | (simp only [Conds, rng, wrap_u8, wrap_u16, wrap_u32, wrap_u64] <;> omega)) ?_) | (refine MC.laD true (la_load1 hs rfl (by rfl)) rfl ?_) | (refine MC.part rfl rfl (fun h => absurd h (by first | decide | omega)) (fun _ => ?_)) | (refine MC.part rfl rfl (fun _ => ?_) (fun h => absurd (by first | decide | omega) h)) | (refine MC.cond rfl (fun h => absurd h (by first | decide | omega)) (fun _ => ?_)) | (refine MC.cond rfl (fun _ => ?_) (fun h => absurd (by first | decide | omega) h)))
        repeat (first | (refine MC.run1 tab 1000 rfl rfl (by first | exact True.intro | (simp only [Conds, rng, Int.toNat_natCast, List.length_append, bytesV_length] <;> omega) | (simp [Conds, rng] <;> omega) | (simp only [Conds, rng, wrap_u8, wrap_u16, wrap_u32, wrap_u64] <;> omega)) ?_) | (refine MC.la true (la_load1 hs rfl (by rfl)) rfl ?_) | (refine MC.part rfl rfl (fun h => absurd h (by first | decide | omega)) (fun _ => ?_)) | (refine MC.part rfl rfl (fun _ => ?_) (fun h => absurd (by first | decide | omega) h)) | (refine MC.cond rfl (fun h => absurd h (by first | decide | omega)) (fun _ => ?_)) | (refine MC.cond rfl (fun _ => ?_) (fun h => absurd (by first | decide | omega) h)))
        refine MC.again (min s.length (k + 2)) (by repeat (first | exact trivial | refine ⟨rfl, ?_⟩)) ⟨by omega, by omega, hnx, hs⟩ (by omega)
      | true =>
        cases u with
        | nil => exact absurd hB (by decide)
        | cons d2 v =>
          obtain rfl : d2 = 40 := by rw [pre_cons] at hB; exact of_decide_eq_true hB
          simp only [List.length_cons] at hul
          have e2 : s.drop (k + 2) = v := by rw [show k + 2 = (k + 1) + 1 from rfl, ← List.drop_drop, hnn]; rfl
          rw [quoteR_in hok] at h1
          repeat (first | (refine MC.run1 tab 1000 rfl rfl (by first | exact True.intro | (simp only [Conds, rng, Int.toNat_natCast, List.length_append, bytesV_length] <;> omega) | (simp [Conds, rng] <;> omega) | (simp only [Conds, rng, wrap_u8, wrap_u16, wrap_u32, wrap_u64] <;> omega)) ?_) | (refine MC.laD true (la_load1 hs rfl (by rfl)) rfl ?_) | (refine MC.part rfl rfl (fun h => absurd h (by first | decide | omega)) (fun _ => ?_)) | (refine MC.part rfl rfl (fun _ => ?_) (fun h => absurd (by first | decide | omega) h)) | (refine MC.cond rfl (fun h => absurd h (by first | decide | omega)) (fun _ => ?_)) | (refine MC.cond rfl (fun _ => ?_) (fun h => absurd (by first | decide | omega) h)))
          repeat (first | (refine MC.run1 tab 1000 rfl rfl (by first | exact True.intro | (simp only [Conds, rng, Int.toNat_natCast, List.length_append, bytesV_length] <;> omega) | (simp [Conds, rng] <;> omega) | (simp only [Conds, rng, wrap_u8, wrap_u16, wrap_u32, wrap_u64] <;> omega)) ?_) | (refine MC.la true (la_load1 hs rfl (by rfl)) rfl ?_) | (refine MC.part rfl rfl (fun h => absurd h (by first | decide | omega)) (fun _ => ?_)) | (refine MC.part rfl rfl (fun _ => ?_) (fun h => absurd (by first | decide | omega) h)) | (refine MC.cond rfl (fun h => absurd h (by first | decide | omega)) (fun _ => ?_)) | (refine MC.cond rfl (fun _ => ?_) (fun h => absurd (by first | decide | omega) h)))
          refine MC.does true (does_store1 hs rfl rfl rfl (by first | decide | (simp; done) | (simp; omega))) rfl ?_; intro _ w hs
          have hs : Sat (scn b s (k + 2) :: F) w := hs
          have hin := inner_spec (d := d) ⟨hd0.1, by omega⟩ hn hok hne hM hl (show k + 2 ≤ s.length by omega) hs
          rw [e2] at hin
          cases hi : innerL nx v 1 with
          | ok m =>
            have hb := innerL_ok hok hi
            rw [hi] at hin h1
            dsimp only [] at h1
            repeat (first | (refine MC.run1 tab 1000 rfl rfl (by first | exact True.intro | (simp only [Conds, rng, Int.toNat_natCast, List.length_append, bytesV_length] <;> omega) | (simp [Conds, rng] <;> omega) | (simp only [Conds, rng, wrap_u8, wrap_u16, wrap_u32, wrap_u64] <;> omega)) ?_) | (refine MC.la true (la_load1 hs rfl (by rfl)) rfl ?_) | (refine MC.part rfl rfl (fun h => absurd h (by first | decide | omega)) (fun _ => ?_)) | (refine MC.part rfl rfl (fun _ => ?_) (fun h => absurd (by first | decide | omega) h)) | (refine MC.cond rfl (fun h => absurd h (by first | decide | omega)) (fun _ => ?_)) | (refine MC.cond rfl (fun _ => ?_) (fun h => absurd (by first | decide | omega) h)))
            refine MC.does true (does_call rfl (hin)) rfl ?_
            rintro _ w ⟨rfl, hs⟩
            repeat (first | (refine MC.run1 tab 1000 rfl rfl (by first | exact True.intro | (simp only [Conds, rng, Int.toNat_natCast, List.length_append, bytesV_length] <;> omega) | (simp [Conds, rng] <;> omega) | (simp only [Conds, rng, wrap_u8, wrap_u16, wrap_u32, wrap_u64] <;> omega)) ?_) | (refine MC.la true (la_load1 hs rfl (by rfl)) rfl ?_) | (refine MC.part rfl rfl (fun h => absurd h (by first | decide | omega)) (fun _ => ?_)) | (refine MC.part rfl rfl (fun _ => ?_) (fun h => absurd (by first | decide | omega) h)) | (refine MC.cond rfl (fun h => absurd h (by first | decide | omega)) (fun _ => ?_)) | (refine MC.cond rfl (fun _ => ?_) (fun h => absurd (by first | decide | omega) h)))
            refine MC.again (k + 2 + m) (by repeat (first | exact trivial | refine ⟨rfl, ?_⟩)) ⟨by omega, by omega, ?_, hs⟩ (by omega)
            rw [h1, ← List.drop_drop, e2, Q.on_on]
            congr 1; omega
          | text =>
            rw [hi] at hin h1
            dsimp only [] at h1
            rw [h1]
            repeat (first | (refine MC.run1 tab 1000 rfl rfl (by first | exact True.intro | (simp only [Conds, rng, Int.toNat_natCast, List.length_append, bytesV_length] <;> omega) | (simp [Conds, rng] <;> omega) | (simp only [Conds, rng, wrap_u8, wrap_u16, wrap_u32, wrap_u64] <;> omega)) ?_) | (refine MC.la true (la_load1 hs rfl (by rfl)) rfl ?_) | (refine MC.part rfl rfl (fun h => absurd h (by first | decide | omega)) (fun _ => ?_)) | (refine MC.part rfl rfl (fun _ => ?_) (fun h => absurd (by first | decide | omega) h)) | (refine MC.cond rfl (fun h => absurd h (by first | decide | omega)) (fun _ => ?_)) | (refine MC.cond rfl (fun _ => ?_) (fun h => absurd (by first | decide | omega) h)))
            refine MC.does true (does_call rfl (hin)) rfl ?_
            rintro _ w ⟨rfl, p', hp', hs⟩
            repeat (first | (refine MC.run1 tab 1000 rfl rfl (by first | exact True.intro | (simp only [Conds, rng, Int.toNat_natCast, List.length_append, bytesV_length] <;> omega) | (simp [Conds, rng] <;> omega) | (simp only [Conds, rng, wrap_u8, wrap_u16, wrap_u32, wrap_u64] <;> omega)) ?_) | (refine MC.la true (la_load1 hs rfl (by rfl)) rfl ?_) | (refine MC.part rfl rfl (fun h => absurd h (by first | decide | omega)) (fun _ => ?_)) | (refine MC.part rfl rfl (fun _ => ?_) (fun h => absurd (by first | decide | omega) h)) | (refine MC.cond rfl (fun h => absurd h (by first | decide | omega)) (fun _ => ?_)) | (refine MC.cond rfl (fun _ => ?_) (fun h => absurd (by first | decide | omega) h)))
            refine MC.ret rfl ?_
            exact ⟨rfl, p', hp', hs⟩
          | err a e =>
            have hb := innerL_e hok hne _ _ _ _ _ (Nat.lt_succ_self _) hi
            have hb1 : 1 ≤ e ∧ e ≤ 100 := hb
            rw [hi] at hin h1
            dsimp only [] at h1
            rw [h1]
            repeat (first | (refine MC.run1 tab 1000 rfl rfl (by first | exact True.intro | (simp only [Conds, rng, Int.toNat_natCast, List.length_append, bytesV_length] <;> omega) | (simp [Conds, rng] <;> omega) | (simp only [Conds, rng, wrap_u8, wrap_u16, wrap_u32, wrap_u64] <;> omega)) ?_) | (refine MC.la true (la_load1 hs rfl (by rfl)) rfl ?_) | (refine MC.part rfl rfl (fun h => absurd h (by first | decide | omega)) (fun _ => ?_)) | (refine MC.part rfl rfl (fun _ => ?_) (fun h => absurd (by first | decide | omega) h)) | (refine MC.cond rfl (fun h => absurd h (by first | decide | omega)) (fun _ => ?_)) | (refine MC.cond rfl (fun _ => ?_) (fun h => absurd (by first | decide | omega) h)))
            refine MC.does true (does_call rfl (hin)) rfl ?_
            rintro _ w ⟨rfl, p', hp', hs⟩
            repeat (first | (refine MC.run1 tab 1000 rfl rfl (by first | exact True.intro | (simp only [Conds, rng, Int.toNat_natCast, List.length_append, bytesV_length] <;> omega) | (simp [Conds, rng] <;> omega) | (simp only [Conds, rng, wrap_u8, wrap_u16, wrap_u32, wrap_u64] <;> omega)) ?_) | (refine MC.la true (la_load1 hs rfl (by rfl)) rfl ?_) | (refine MC.part rfl rfl (fun h => absurd h (by first | decide | omega)) (fun _ => ?_)) | (refine MC.part rfl rfl (fun _ => ?_) (fun h => absurd (by first | decide | omega) h)) | (refine MC.cond rfl (fun h => absurd h (by first | decide | omega)) (fun _ => ?_)) | (refine MC.cond rfl (fun _ => ?_) (fun h => absurd (by first | decide | omega) h)))
            refine MC.ret rfl ?_
            have e3 : k + 2 + a = p + (1 + (k - (p + 1) + (2 + a))) := by omega
            rw [e3]
            exact ⟨rfl, p', hp', hs⟩
    · have n92 : (c.toNat : Int) ≠ 92 := fun e => h92 (u8i (k := 92) e)
      repeat (first | (refine MC.run1 tab 1000 rfl rfl (by first | exact True.intro | (simp only [Conds, rng, Int.toNat_natCast, List.length_append, bytesV_length] <;> omega) | (simp [Conds, rng] <;> omega) | (simp only [Conds, rng, wrap_u8, wrap_u16, wrap_u32, wrap_u64] <;> omega)) ?_) | (refine MC.la true (la_load1 hs rfl (by rfl)) rfl ?_) | (refine MC.part rfl rfl (fun h => absurd h (by first | decide | omega)) (fun _ => ?_)) | (refine MC.part rfl rfl (fun _ => ?_) (fun h => absurd (by first | decide | omega) h)) | (refine MC.cond rfl (fun h => absurd h (by first | decide | omega)) (fun _ => ?_)) | (refine MC.cond rfl (fun _ => ?_) (fun h => absurd (by first | decide | omega) h)))
      refine MC.draw hs [0,1,2,3,4,5,6,7,8,9,10,11,12,13,14,15] (by rfl) ?_; intro w hs
      repeat (first | (refine MC.run1 tab 1000 rfl rfl (by first | exact True.intro | (simp only [Conds, rng, Int.toNat_natCast, List.length_append, bytesV_length] <;> omega) | (simp [Conds, rng] <;> omega) | (simp only [Conds, rng, wrap_u8, wrap_u16, wrap_u32, wrap_u64] <;> omega)) ?_) | (refine MC.laD true (la_load1 hs rfl (by rfl)) rfl ?_) | (refine MC.part rfl rfl (fun h => absurd h (by first | decide | omega)) (fun _ => ?_)) | (refine MC.part rfl rfl (fun _ => ?_) (fun h => absurd (by first | decide | omega) h)) | (refine MC.cond rfl (fun h => absurd h (by first | decide | omega)) (fun _ => ?_)) | (refine MC.cond rfl (fun _ => ?_) (fun h => absurd (by first | decide | omega) h)))
      repeat (first | (refine MC.run1 tab 1000 rfl rfl (by first | exact True.intro | (simp only [Conds, rng, Int.toNat_natCast, List.length_append, bytesV_length] <;> omega) | (simp [Conds, rng] <;> omega) | (simp only [Conds, rng, wrap_u8, wrap_u16, wrap_u32, wrap_u64] <;> omega)) ?_) | (refine MC.la true (la_load1 hs rfl (by rfl)) rfl ?_) | (refine MC.part rfl rfl (fun h => absurd h (by first | decide | omega)) (fun _ => ?_)) | (refine MC.part rfl rfl (fun _ => ?_) (fun h => absurd (by first | decide | omega) h)) | (refine MC.cond rfl (fun h => absurd h (by first | decide | omega)) (fun _ => ?_)) | (refine MC.cond rfl (fun _ => ?_) (fun h => absurd (by first | decide | omega) h)))
      refine MC.does true (does_store1 hs rfl rfl rfl (by first | decide | (simp; done) | (simp; omega))) rfl ?_; intro _ w hs
      repeat (first | (refine MC.run1 tab 1000 rfl rfl (by first | exact True.intro | (simp only [Conds, rng, Int.toNat_natCast, List.length_append, bytesV_length] <;> omega) | (simp [Conds, rng] <;> omega) | (simp only [Conds, rng, wrap_u8, wrap_u16, wrap_u32, wrap_u64] <;> omega)) ?_) | (refine MC.la true (la_load1 hs rfl (by rfl)) rfl ?_) | (refine MC.part rfl rfl (fun h => absurd h (by first | decide | omega)) (fun _ => ?_)) | (refine MC.part rfl rfl (fun _ => ?_) (fun h => absurd (by first | decide | omega) h)) | (refine MC.cond rfl (fun h => absurd h (by first | decide | omega)) (fun _ => ?_)) | (refine MC.cond rfl (fun _ => ?_) (fun h => absurd (by first | decide | omega) h)))
      refine MC.again (k + 1) (by repeat (first | exact trivial | refine ⟨rfl, ?_⟩)) ⟨by omega, by omega, ?_, hs⟩ (by omega)
      rw [h1, quoteR_plain hok h34 h92, hnn, Q.on_on]
      congr 1; omega
  · obtain rfl : k = s.length := by omega
    rw [h1, List.drop_length, quoteR_nil]
    repeat (first | (refine MC.run1 tab 1000 rfl rfl (by first | exact True.intro | (simp only [Conds, rng, Int.toNat_natCast, List.length_append, bytesV_length] <;> omega) | (simp [Conds, rng] <;> omega) | (simp only [Conds, rng, wrap_u8, wrap_u16, wrap_u32, wrap_u64] <;> omega)) ?_) | (refine MC.la true (la_load1 hs rfl (by rfl)) rfl ?_) | (refine MC.part rfl rfl (fun h => absurd h (by first | decide | omega)) (fun _ => ?_)) | (refine MC.part rfl rfl (fun _ => ?_) (fun h => absurd (by first | decide | omega) h)) | (refine MC.cond rfl (fun h => absurd h (by first | decide | omega)) (fun _ => ?_)) | (refine MC.cond rfl (fun _ => ?_) (fun h => absurd (by first | decide | omega) h)))
    refine MC.ret rfl ?_
    exact ⟨rfl, _, Nat.le_refl _, hs⟩
theorem quote_all : ∀ D, D ≤ 48 → QuoteC (quoteL D) ((48 - D : Nat) : Int)
  | 0, _ => quote_zero
  | D + 1, h => by
    have ih := quote_all D (by omega)
    have hn := nextC_of ih (quoteL_ok D) (errOk_L D)
    have e : ((48 - D : Nat) : Int) = ((48 - (D + 1) : Nat) : Int) + 1 := by omega
    rw [e] at hn
    exact quote_succ ⟨by omega, by omega⟩ hn
theorem next_all (D : Nat) (h : D ≤ 48) : NextC (nextD D) ((48 - D : Nat) : Int) := nextC_of (quote_all D h) (quoteL_ok D) (errOk_L D)
theorem inner_all (D : Nat) (h : D ≤ 47) {F : List Assn} {w : World} {b p : Nat} {s : Bs} (hM : MaxC F) (hl : s.length ≤ 20000) (hp : p ≤ s.length) (hs : Sat (scn b s p :: F) w) :
    Ret Try.prog 19 [ptr b, int ((47 - D : Nat) : Int)] w (innerP b s p F (innerL (nextD D) (s.drop p) 1)) := by
  have hn := next_all D (by omega)
  have e : ((48 - D : Nat) : Int) = ((47 - D : Nat) : Int) + 1 := by omega
  rw [e] at hn
  exact inner_spec ⟨by omega, by omega⟩ hn (nextD_ok D) (fun r a e h => nextD_e h) hM hl hp hs
end Go.Proofs.Ytcahpllliflloaa
