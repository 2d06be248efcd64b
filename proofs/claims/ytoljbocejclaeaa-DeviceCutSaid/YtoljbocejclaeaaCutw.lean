/- The law of the cut device: its walk. -/
import Derived.Test.YtoljbocejclaeaaTornw
set_option linter.unusedVariables false
set_option linter.unusedSimpArgs false
namespace Go.Proofs.Ytoljbocejclaeaa
open Go Go.Sl
attribute [local irreducible] LooksAt

theorem u8_small {i : Nat} (h : i ≤ 60) : Value.int .u8 (IntKind.u8.wrap (i : Int)) = byte (UInt8.ofNat i) := by
  have e : ((UInt8.ofNat i).toNat : Int) = i := by rw [UInt8.toNat_ofNat']; omega
  rw [byte, e]
  have e2 : IntKind.u8.wrap (i : Int) = i := by simp [IntKind.wrap, IntKind.signed, IntKind.bits]; omega
  rw [e2]
theorem cut_walk (n : Int) {vs : Value} {nk : Nat} {syncs : List Bool} {F : List Assn} {w : World} (hs : Sat F w) (hk : RdS F 1 vs nk (boolsV syncs)) :
    Ret Try.prog 7 [int n, vs] w fun v w' => v = bool true ∧ Sat F w' := by
  obtain ⟨qk, ck, rfl, hck, hkl, hkr⟩ := id hk
  have hnk : nk = syncs.length := by simpa [boolsV] using hkl.symm
  subst hnk
  have hwr : 0 ≤ IntKind.u64.wrap n := by simp [IntKind.wrap, IntKind.signed, IntKind.bits]; omega
  refine Ret.enter [(true, int n), (true, .slice qk syncs.length ck)] _ Try.func7 rfl Try.ntmps7 rfl ?_
  repeat (first | (refine MC.run1 tab 1000 rfl rfl (by first | exact True.intro | (simp only [Conds, rng, Int.toNat_natCast, List.length_append, bytesV_length] <;> omega) | (simp [Conds, rng] <;> omega)) ?_) | (refine MC.la true (la_load1 hs rfl (by rfl)) rfl ?_) | (refine MC.part rfl rfl (fun h => absurd h (by first | decide | omega)) (fun _ => ?_)) | (refine MC.part rfl rfl (fun _ => ?_) (fun h => absurd (by first | decide | omega) h)) | (refine MC.cond rfl (fun h => absurd h (by first | decide | omega)) (fun _ => ?_)) | (refine MC.cond rfl (fun _ => ?_) (fun h => absurd (by first | decide | omega) h)))
  refine MC.does true (does_call rfl (works_spec hs)) rfl ?_
  rintro _ w ⟨rfl, hs⟩
  repeat (first | (refine MC.run1 tab 1000 rfl rfl (by first | exact True.intro | (simp only [Conds, rng, Int.toNat_natCast, List.length_append, bytesV_length] <;> omega) | (simp [Conds, rng] <;> omega)) ?_) | (refine MC.la true (la_load1 hs rfl (by rfl)) rfl ?_) | (refine MC.part rfl rfl (fun h => absurd h (by first | decide | omega)) (fun _ => ?_)) | (refine MC.part rfl rfl (fun _ => ?_) (fun h => absurd (by first | decide | omega) h)) | (refine MC.cond rfl (fun h => absurd h (by first | decide | omega)) (fun _ => ?_)) | (refine MC.cond rfl (fun _ => ?_) (fun h => absurd (by first | decide | omega) h)))
  have hm0 : 0 ≤ IntKind.u64.wrap n % 30 := by omega
  have hm1 : IntKind.u64.wrap n % 30 < 30 := by omega
  generalize IntKind.u64.wrap n % 30 = m at hm0 hm1 ⊢
  refine MC.does true (does_call rfl (new_spec hs 3 (by decide) (by decide))) rfl ?_
  rintro _ w ⟨p, rfl, hs⟩
  have hD := Dev.new_ok (n := 3) (by decide) (by decide)
  repeat (first | (refine MC.run1 tab 1000 rfl rfl (by first | exact True.intro | (simp only [Conds, rng, Int.toNat_natCast, List.length_append, bytesV_length] <;> omega) | (simp [Conds, rng] <;> omega)) ?_) | (refine MC.la true (la_load1 hs rfl (by rfl)) rfl ?_) | (refine MC.part rfl rfl (fun h => absurd h (by first | decide | omega)) (fun _ => ?_)) | (refine MC.part rfl rfl (fun _ => ?_) (fun h => absurd (by first | decide | omega) h)) | (refine MC.cond rfl (fun h => absurd h (by first | decide | omega)) (fun _ => ?_)) | (refine MC.cond rfl (fun _ => ?_) (fun h => absurd (by first | decide | omega) h)))
  refine MC.does true (does_call rfl (cut_spec hs hD m)) rfl ?_
  rintro _ w ⟨rfl, hs⟩
  rw [if_neg (show ¬ m < 0 by omega)]
  have hc : (Dev.new 3).cut m = { Dev.new 3 with fuse := m + 1 } := by
    simp only [Dev.cut, if_neg (show ¬ m < 0 by omega)]
    rw [show min m 1152921504606846976 = m by omega]
  rw [hc] at hs
  repeat (first | (refine MC.run1 tab 1000 rfl rfl (by first | exact True.intro | (simp only [Conds, rng, Int.toNat_natCast, List.length_append, bytesV_length] <;> omega) | (simp [Conds, rng] <;> omega)) ?_) | (refine MC.la true (la_load1 hs rfl (by rfl)) rfl ?_) | (refine MC.part rfl rfl (fun h => absurd h (by first | decide | omega)) (fun _ => ?_)) | (refine MC.part rfl rfl (fun _ => ?_) (fun h => absurd (by first | decide | omega) h)) | (refine MC.cond rfl (fun h => absurd h (by first | decide | omega)) (fun _ => ?_)) | (refine MC.cond rfl (fun _ => ?_) (fun h => absurd (by first | decide | omega) h)))
  refine MC.loop (σ := Nat × Dev × Int) (fun s => [(0, true, int m), (1, true, .slice qk syncs.length ck), (5, true, ptr p), (7, true, int s.2.2), (8, true, int (s.2.1.O.length : Nat)), (9, true, int (s.1 : Nat))])
    (fun s w => s.1 ≤ syncs.length ∧ s.1 ≤ 60 ∧ s.2.1.ok ∧ s.2.1.S.length = 3 ∧ s.2.1.fuse = m + 1 - s.2.2 ∧ 0 ≤ s.2.2 ∧ s.2.2 ≤ m ∧ s.2.1.O.length ≤ s.1 ∧ Sat (dev p s.2.1 :: F) w) (fun s => 60 - s.1) (0, { Dev.new 3 with fuse := m + 1 }, 0) (by repeat (first | exact trivial | refine ⟨rfl, ?_⟩)) ⟨by omega, by omega, { hD with fuse0 := by show 0 ≤ m + 1; omega, fuse1 := by show m + 1 ≤ _; omega }, rfl, by show m + 1 = m + 1 - 0; omega, Int.le_refl 0, hm0, Nat.le_refl 0, hs⟩ ?_
  rintro ⟨i, D, done⟩ w ⟨hi, hi6, hD, hS, hfu, hd0, hd1, hO, hs⟩
  have hi : i ≤ syncs.length := hi
  have hi6 : i ≤ 60 := hi6
  have hD : D.ok := hD
  have hS : D.S.length = 3 := hS
  have hfu : D.fuse = m + 1 - done := hfu
  have hd0 : 0 ≤ done := hd0
  have hd1 : done ≤ m := hd1
  have hO : D.O.length ≤ i := hO
  have hs : Sat (dev p D :: F) w := hs
  dsimp only []
  have hwg : ∀ k : Int, 0 ≤ k → k < 3 → D.wrong k 256 = if done < m then 0 else 150 := by
    intro k hk0 hk1
    simp only [Dev.wrong, hS]
    rw [if_neg (by omega), if_neg (by simp)]
    by_cases hdm : done < m
    · rw [if_pos hdm, if_neg (by omega)]
    · rw [if_neg hdm, if_pos (by omega)]
  repeat (first | (refine MC.run1 tab 1000 rfl rfl (by first | exact True.intro | (simp only [Conds, rng, Int.toNat_natCast, List.length_append, bytesV_length] <;> omega) | (simp [Conds, rng] <;> omega)) ?_) | (refine MC.la true (la_load1 hs rfl (by rfl)) rfl ?_) | (refine MC.part rfl rfl (fun h => absurd h (by first | decide | omega)) (fun _ => ?_)) | (refine MC.part rfl rfl (fun _ => ?_) (fun h => absurd (by first | decide | omega) h)) | (refine MC.cond rfl (fun h => absurd h (by first | decide | omega)) (fun _ => ?_)) | (refine MC.cond rfl (fun _ => ?_) (fun h => absurd (by first | decide | omega) h)))
  refine MC.part rfl rfl (fun h1 => ?_) (fun h1 => ?_)
  · repeat (first | (refine MC.run1 tab 1000 rfl rfl (by first | exact True.intro | (simp only [Conds, rng, Int.toNat_natCast, List.length_append, bytesV_length] <;> omega) | (simp [Conds, rng] <;> omega)) ?_) | (refine MC.la true (la_load1 hs rfl (by rfl)) rfl ?_) | (refine MC.part rfl rfl (fun h => absurd h (by first | decide | omega)) (fun _ => ?_)) | (refine MC.part rfl rfl (fun _ => ?_) (fun h => absurd (by first | decide | omega) h)) | (refine MC.cond rfl (fun h => absurd h (by first | decide | omega)) (fun _ => ?_)) | (refine MC.cond rfl (fun _ => ?_) (fun h => absurd (by first | decide | omega) h)))
    have h1 : (i : Int) < syncs.length := h1
    have hil : i < syncs.length := by omega
    refine MC.cond rfl (fun h2 => ?_) (fun h2 => ?_)
    · have h2 : (i : Int) < 60 := h2
      refine MC.skip (MC.seq (MC.block (MC.seq ?_)))
      refine MC.run1 tab 3 rfl rfl (by first | exact True.intro | (simp only [Conds, rng, Int.toNat_natCast, List.length_append, bytesV_length] <;> omega) | (simp [Conds, rng] <;> omega)) ?_
      refine MC.cut [(0, true, int m), (1, true, .slice qk syncs.length ck), (5, true, ptr p), (7, true, int done), (8, true, int (D.O.length : Nat)), (9, true, int (i : Nat)), (10, true, int (if done < m then 0 else 150))] (fun w' => Sat (dev p (if done < m then (if syncs[i] then D.sync else D.write ((i : Int) % 3).toNat (filled (UInt8.ofNat i) [])) else D) :: F) w') _ _ (fun w' hs => ?_) ?_
      · have hO2 : D.O.length ≤ 100000 := by omega
        by_cases hdm : done < m
        · simp only [if_pos hdm] at hs ⊢
          obtain ⟨bk, ok, rfl, hkr1⟩ := hkr (by omega)
          have hkv : (boolsV syncs)[((i : Nat) : Int).toNat * 1]? = some (bool syncs[i]) := by
            rw [Int.toNat_natCast, Nat.mul_one]; simp [boolsV, hil]
          repeat (first | (refine MC.run1 tab 1000 rfl rfl (by first | exact True.intro | (simp only [Conds, rng, Int.toNat_natCast, List.length_append, bytesV_length] <;> omega) | (simp [Conds, rng] <;> omega)) ?_) | (refine MC.la true (la_load1 hs rfl (by rfl)) rfl ?_) | (refine MC.part rfl rfl (fun h => absurd h (by first | decide | omega)) (fun _ => ?_)) | (refine MC.part rfl rfl (fun _ => ?_) (fun h => absurd (by first | decide | omega) h)) | (refine MC.cond rfl (fun h => absurd h (by first | decide | omega)) (fun _ => ?_)) | (refine MC.cond rfl (fun _ => ?_) (fun h => absurd (by first | decide | omega) h)))
          refine MC.pure (f := false) (po_bin rfl rfl br_bool_ne) rfl ?_
          repeat (first | (refine MC.run1 tab 1000 rfl rfl (by first | exact True.intro | (simp only [Conds, rng, Int.toNat_natCast, List.length_append, bytesV_length] <;> omega) | (simp [Conds, rng] <;> omega)) ?_) | (refine MC.la true (la_load1 hs rfl (by rfl)) rfl ?_) | (refine MC.part rfl rfl (fun h => absurd h (by first | decide | omega)) (fun _ => ?_)) | (refine MC.part rfl rfl (fun _ => ?_) (fun h => absurd (by first | decide | omega) h)) | (refine MC.cond rfl (fun h => absurd h (by first | decide | omega)) (fun _ => ?_)) | (refine MC.cond rfl (fun _ => ?_) (fun h => absurd (by first | decide | omega) h)))
          refine MC.part rfl rfl (fun h => absurd h (by simp [hdm])) (fun _ => ?_)
          repeat (first | (refine MC.run1 tab 1000 rfl rfl (by first | exact True.intro | (simp only [Conds, rng, Int.toNat_natCast, List.length_append, bytesV_length] <;> omega) | (simp [Conds, rng] <;> omega)) ?_) | (refine MC.la true (la_load1 hs rfl (by rfl)) rfl ?_) | (refine MC.part rfl rfl (fun h => absurd h (by first | decide | omega)) (fun _ => ?_)) | (refine MC.part rfl rfl (fun _ => ?_) (fun h => absurd (by first | decide | omega) h)) | (refine MC.cond rfl (fun h => absurd h (by first | decide | omega)) (fun _ => ?_)) | (refine MC.cond rfl (fun _ => ?_) (fun h => absurd (by first | decide | omega) h)))
          refine MC.la false (la_load1_rd hkr1 hs (j := ((i : Nat) : Int).toNat * 1) rfl hkv) rfl ?_
          repeat (first | (refine MC.run1 tab 1000 rfl rfl (by first | exact True.intro | (simp only [Conds, rng, Int.toNat_natCast, List.length_append, bytesV_length] <;> omega) | (simp [Conds, rng] <;> omega)) ?_) | (refine MC.la true (la_load1 hs rfl (by rfl)) rfl ?_) | (refine MC.part rfl rfl (fun h => absurd h (by first | decide | omega)) (fun _ => ?_)) | (refine MC.part rfl rfl (fun _ => ?_) (fun h => absurd (by first | decide | omega) h)) | (refine MC.cond rfl (fun h => absurd h (by first | decide | omega)) (fun _ => ?_)) | (refine MC.cond rfl (fun _ => ?_) (fun h => absurd (by first | decide | omega) h)))
          refine MC.condB rfl (fun hb => ?_) (fun hb => ?_)
          · rw [hb] at hs
            simp only [if_true] at hs
            have hDn := Dev.sync_ok hD
            have hln : D.sync.O.length = 0 := rfl
            repeat (first | (refine MC.run1 tab 1000 rfl rfl (by first | exact True.intro | (simp only [Conds, rng, Int.toNat_natCast, List.length_append, bytesV_length] <;> omega) | (simp [Conds, rng] <;> omega)) ?_) | (refine MC.la true (la_load1 hs rfl (by rfl)) rfl ?_) | (refine MC.part rfl rfl (fun h => absurd h (by first | decide | omega)) (fun _ => ?_)) | (refine MC.part rfl rfl (fun _ => ?_) (fun h => absurd (by first | decide | omega) h)) | (refine MC.cond rfl (fun h => absurd h (by first | decide | omega)) (fun _ => ?_)) | (refine MC.cond rfl (fun _ => ?_) (fun h => absurd (by first | decide | omega) h)))
            refine MC.does true (does_call rfl (open_spec hs hDn (by omega))) rfl ?_
            intro va w hs
            obtain ⟨_, qa, ca, rfl, _⟩ := hs.sl_len
            have hs := hs.tail
            repeat (first | (refine MC.run1 tab 1000 rfl rfl (by first | exact True.intro | (simp only [Conds, rng, Int.toNat_natCast, List.length_append, bytesV_length] <;> omega) | (simp [Conds, rng] <;> omega)) ?_) | (refine MC.la true (la_load1 hs rfl (by rfl)) rfl ?_) | (refine MC.part rfl rfl (fun h => absurd h (by first | decide | omega)) (fun _ => ?_)) | (refine MC.part rfl rfl (fun _ => ?_) (fun h => absurd (by first | decide | omega) h)) | (refine MC.cond rfl (fun h => absurd h (by first | decide | omega)) (fun _ => ?_)) | (refine MC.cond rfl (fun _ => ?_) (fun h => absurd (by first | decide | omega) h)))
            exact MC.again (i + 1, D.sync, done + 1) ⟨rfl, rfl, rfl, rfl, rfl, int_eq (by omega), trivial⟩ ⟨hil, by show i + 1 ≤ 60; omega, hDn, (laid_length _ _).trans hS, by show burnt D.fuse = m + 1 - (done + 1); rw [burnt, if_pos (by omega)]; omega, by show 0 ≤ done + 1; omega, by show done + 1 ≤ m; omega, Nat.zero_le _, hs⟩ (by show 60 - (i + 1) < 60 - i; omega)
          · rw [hb] at hs
            simp only [Bool.false_eq_true, if_false] at hs
            have hDn := Dev.write_ok hD (k := ((i : Int) % 3).toNat) (by omega) (filled_length (UInt8.ofNat i) [])
            have hln : (D.write ((i : Int) % 3).toNat (filled (UInt8.ofNat i) [])).O.length = D.O.length + 1 := by simp [Dev.write]
            repeat (first | (refine MC.run1 tab 1000 rfl rfl (by first | exact True.intro | (simp only [Conds, rng, Int.toNat_natCast, List.length_append, bytesV_length] <;> omega) | (simp [Conds, rng] <;> omega)) ?_) | (refine MC.la true (la_load1 hs rfl (by rfl)) rfl ?_) | (refine MC.part rfl rfl (fun h => absurd h (by first | decide | omega)) (fun _ => ?_)) | (refine MC.part rfl rfl (fun _ => ?_) (fun h => absurd (by first | decide | omega) h)) | (refine MC.cond rfl (fun h => absurd h (by first | decide | omega)) (fun _ => ?_)) | (refine MC.cond rfl (fun _ => ?_) (fun h => absurd (by first | decide | omega) h)))
            refine MC.does true (does_call rfl (open_spec hs hDn (by omega))) rfl ?_
            intro va w hs
            obtain ⟨_, qa, ca, rfl, _⟩ := hs.sl_len
            have hs := hs.tail
            repeat (first | (refine MC.run1 tab 1000 rfl rfl (by first | exact True.intro | (simp only [Conds, rng, Int.toNat_natCast, List.length_append, bytesV_length] <;> omega) | (simp [Conds, rng] <;> omega)) ?_) | (refine MC.la true (la_load1 hs rfl (by rfl)) rfl ?_) | (refine MC.part rfl rfl (fun h => absurd h (by first | decide | omega)) (fun _ => ?_)) | (refine MC.part rfl rfl (fun _ => ?_) (fun h => absurd (by first | decide | omega) h)) | (refine MC.cond rfl (fun h => absurd h (by first | decide | omega)) (fun _ => ?_)) | (refine MC.cond rfl (fun _ => ?_) (fun h => absurd (by first | decide | omega) h)))
            exact MC.again (i + 1, D.write ((i : Int) % 3).toNat (filled (UInt8.ofNat i) []), done + 1) ⟨rfl, rfl, rfl, rfl, int_eq (by show (D.O.length : Int) + 1 = ((D.write ((i : Int) % 3).toNat (filled (UInt8.ofNat i) [])).O.length : Nat); omega), int_eq (by show (i : Int) + 1 = ((i + 1 : Nat) : Int); omega), trivial⟩ ⟨hil, by show i + 1 ≤ 60; omega, hDn, hS, by show burnt D.fuse = m + 1 - (done + 1); rw [burnt, if_pos (by omega)]; omega, by show 0 ≤ done + 1; omega, by show done + 1 ≤ m; omega, by show (D.write ((i : Int) % 3).toNat (filled (UInt8.ofNat i) [])).O.length ≤ i + 1; omega, hs⟩ (by show 60 - (i + 1) < 60 - i; omega)
        · simp only [if_neg hdm] at hs ⊢
          repeat (first | (refine MC.run1 tab 1000 rfl rfl (by first | exact True.intro | (simp only [Conds, rng, Int.toNat_natCast, List.length_append, bytesV_length] <;> omega) | (simp [Conds, rng] <;> omega)) ?_) | (refine MC.la true (la_load1 hs rfl (by rfl)) rfl ?_) | (refine MC.part rfl rfl (fun h => absurd h (by first | decide | omega)) (fun _ => ?_)) | (refine MC.part rfl rfl (fun _ => ?_) (fun h => absurd (by first | decide | omega) h)) | (refine MC.cond rfl (fun h => absurd h (by first | decide | omega)) (fun _ => ?_)) | (refine MC.cond rfl (fun _ => ?_) (fun h => absurd (by first | decide | omega) h)))
          refine MC.pure (f := false) (po_bin rfl rfl br_bool_ne) rfl ?_
          repeat (first | (refine MC.run1 tab 1000 rfl rfl (by first | exact True.intro | (simp only [Conds, rng, Int.toNat_natCast, List.length_append, bytesV_length] <;> omega) | (simp [Conds, rng] <;> omega)) ?_) | (refine MC.la true (la_load1 hs rfl (by rfl)) rfl ?_) | (refine MC.part rfl rfl (fun h => absurd h (by first | decide | omega)) (fun _ => ?_)) | (refine MC.part rfl rfl (fun _ => ?_) (fun h => absurd (by first | decide | omega) h)) | (refine MC.cond rfl (fun h => absurd h (by first | decide | omega)) (fun _ => ?_)) | (refine MC.cond rfl (fun _ => ?_) (fun h => absurd (by first | decide | omega) h)))
          refine MC.part rfl rfl (fun h => absurd h (by simp [hdm])) (fun _ => ?_)
          repeat (first | (refine MC.run1 tab 1000 rfl rfl (by first | exact True.intro | (simp only [Conds, rng, Int.toNat_natCast, List.length_append, bytesV_length] <;> omega) | (simp [Conds, rng] <;> omega)) ?_) | (refine MC.la true (la_load1 hs rfl (by rfl)) rfl ?_) | (refine MC.part rfl rfl (fun h => absurd h (by first | decide | omega)) (fun _ => ?_)) | (refine MC.part rfl rfl (fun _ => ?_) (fun h => absurd (by first | decide | omega) h)) | (refine MC.cond rfl (fun h => absurd h (by first | decide | omega)) (fun _ => ?_)) | (refine MC.cond rfl (fun _ => ?_) (fun h => absurd (by first | decide | omega) h)))
          refine MC.does true (does_call rfl (open_spec hs hD hO2)) rfl ?_
          intro va w hs
          obtain ⟨_, qa, ca, rfl, _⟩ := hs.sl_len
          have hs := hs.tail
          repeat (first | (refine MC.run1 tab 1000 rfl rfl (by first | exact True.intro | (simp only [Conds, rng, Int.toNat_natCast, List.length_append, bytesV_length] <;> omega) | (simp [Conds, rng] <;> omega)) ?_) | (refine MC.la true (la_load1 hs rfl (by rfl)) rfl ?_) | (refine MC.part rfl rfl (fun h => absurd h (by first | decide | omega)) (fun _ => ?_)) | (refine MC.part rfl rfl (fun _ => ?_) (fun h => absurd (by first | decide | omega) h)) | (refine MC.cond rfl (fun h => absurd h (by first | decide | omega)) (fun _ => ?_)) | (refine MC.cond rfl (fun _ => ?_) (fun h => absurd (by first | decide | omega) h)))
          exact MC.again (i + 1, D, done) ⟨rfl, rfl, rfl, rfl, rfl, int_eq (by omega), trivial⟩ ⟨hil, by show i + 1 ≤ 60; omega, hD, hS, hfu, hd0, hd1, by show D.O.length ≤ i + 1; omega, hs⟩ (by show 60 - (i + 1) < 60 - i; omega)
      · obtain ⟨bk, ok, rfl, hkr1⟩ := hkr (by omega)
        have hkv : (boolsV syncs)[((i : Nat) : Int).toNat * 1]? = some (bool syncs[i]) := by
          rw [Int.toNat_natCast, Nat.mul_one]; simp [boolsV, hil]
        repeat (first | (refine MC.run1 tab 1000 rfl rfl (by first | exact True.intro | (simp only [Conds, rng, Int.toNat_natCast, List.length_append, bytesV_length] <;> omega) | (simp [Conds, rng] <;> omega)) ?_) | (refine MC.la true (la_load1 hs rfl (by rfl)) rfl ?_) | (refine MC.part rfl rfl (fun h => absurd h (by first | decide | omega)) (fun _ => ?_)) | (refine MC.part rfl rfl (fun _ => ?_) (fun h => absurd (by first | decide | omega) h)) | (refine MC.cond rfl (fun h => absurd h (by first | decide | omega)) (fun _ => ?_)) | (refine MC.cond rfl (fun _ => ?_) (fun h => absurd (by first | decide | omega) h)))
        refine MC.la false (la_load1_rd hkr1 hs (j := ((i : Nat) : Int).toNat * 1) rfl hkv) rfl ?_
        repeat (first | (refine MC.run1 tab 1000 rfl rfl (by first | exact True.intro | (simp only [Conds, rng, Int.toNat_natCast, List.length_append, bytesV_length] <;> omega) | (simp [Conds, rng] <;> omega)) ?_) | (refine MC.la true (la_load1 hs rfl (by rfl)) rfl ?_) | (refine MC.part rfl rfl (fun h => absurd h (by first | decide | omega)) (fun _ => ?_)) | (refine MC.part rfl rfl (fun _ => ?_) (fun h => absurd (by first | decide | omega) h)) | (refine MC.cond rfl (fun h => absurd h (by first | decide | omega)) (fun _ => ?_)) | (refine MC.cond rfl (fun _ => ?_) (fun h => absurd (by first | decide | omega) h)))
        refine MC.condB rfl (fun hb => ?_) (fun hb => ?_)
        · repeat (first | (refine MC.run1 tab 1000 rfl rfl (by first | exact True.intro | (simp only [Conds, rng, Int.toNat_natCast, List.length_append, bytesV_length] <;> omega) | (simp [Conds, rng] <;> omega)) ?_) | (refine MC.la true (la_load1 hs rfl (by rfl)) rfl ?_) | (refine MC.part rfl rfl (fun h => absurd h (by first | decide | omega)) (fun _ => ?_)) | (refine MC.part rfl rfl (fun _ => ?_) (fun h => absurd (by first | decide | omega) h)) | (refine MC.cond rfl (fun h => absurd h (by first | decide | omega)) (fun _ => ?_)) | (refine MC.cond rfl (fun _ => ?_) (fun h => absurd (by first | decide | omega) h)))
          refine MC.does true (does_call rfl (sync_spec hs hD (by omega))) rfl ?_
          rintro _ w ⟨rfl, hs⟩
          rw [hwg 0 (by omega) (by omega)] at hs ⊢
          repeat (first | (refine MC.run1 tab 1000 rfl rfl (by first | exact True.intro | (simp only [Conds, rng, Int.toNat_natCast, List.length_append, bytesV_length] <;> omega) | (simp [Conds, rng] <;> omega)) ?_) | (refine MC.la true (la_load1 hs rfl (by rfl)) rfl ?_) | (refine MC.part rfl rfl (fun h => absurd h (by first | decide | omega)) (fun _ => ?_)) | (refine MC.part rfl rfl (fun _ => ?_) (fun h => absurd (by first | decide | omega) h)) | (refine MC.cond rfl (fun h => absurd h (by first | decide | omega)) (fun _ => ?_)) | (refine MC.cond rfl (fun _ => ?_) (fun h => absurd (by first | decide | omega) h)))
          refine MC.meet (by repeat (first | exact trivial | refine ⟨rfl, ?_⟩)) ?_
          rw [hb]
          by_cases hdm : done < m
          · simp only [if_pos hdm, if_true] at hs ⊢; exact hs
          · simp only [if_neg hdm, if_false] at hs ⊢; exact hs
        · repeat (first | (refine MC.run1 tab 1000 rfl rfl (by first | exact True.intro | (simp only [Conds, rng, Int.toNat_natCast, List.length_append, bytesV_length] <;> omega) | (simp [Conds, rng] <;> omega)) ?_) | (refine MC.la true (la_load1 hs rfl (by rfl)) rfl ?_) | (refine MC.part rfl rfl (fun h => absurd h (by first | decide | omega)) (fun _ => ?_)) | (refine MC.part rfl rfl (fun _ => ?_) (fun h => absurd (by first | decide | omega) h)) | (refine MC.cond rfl (fun h => absurd h (by first | decide | omega)) (fun _ => ?_)) | (refine MC.cond rfl (fun _ => ?_) (fun h => absurd (by first | decide | omega) h)))
          rw [u8_small hi6]
          refine MC.does true (does_call rfl (filled_spec (c := UInt8.ofNat i) (l := []) hs (RdS.nil _ 1))) rfl ?_
          rintro _ w ⟨b1, rfl, hs⟩
          have hs := hs.swap
          have hw := write_spec (k := (i : Int) % 3) hs hD (filled_rd (b := b1) (c := UInt8.ofNat i) (l := []) (F := F)) (by omega)
          rw [filled_length] at hw
          repeat (first | (refine MC.run1 tab 1000 rfl rfl (by first | exact True.intro | (simp only [Conds, rng, Int.toNat_natCast, List.length_append, bytesV_length] <;> omega) | (simp [Conds, rng] <;> omega)) ?_) | (refine MC.la true (la_load1 hs rfl (by rfl)) rfl ?_) | (refine MC.part rfl rfl (fun h => absurd h (by first | decide | omega)) (fun _ => ?_)) | (refine MC.part rfl rfl (fun _ => ?_) (fun h => absurd (by first | decide | omega) h)) | (refine MC.cond rfl (fun h => absurd h (by first | decide | omega)) (fun _ => ?_)) | (refine MC.cond rfl (fun _ => ?_) (fun h => absurd (by first | decide | omega) h)))
          refine MC.does true (does_call rfl (hw)) rfl ?_
          rintro _ w ⟨rfl, hs⟩
          have hwg' := hwg ((i : Int) % 3) (by omega) (by omega)
          rw [show ((256 : Nat) : Int) = 256 from rfl, hwg'] at hs ⊢
          repeat (first | (refine MC.run1 tab 1000 rfl rfl (by first | exact True.intro | (simp only [Conds, rng, Int.toNat_natCast, List.length_append, bytesV_length] <;> omega) | (simp [Conds, rng] <;> omega)) ?_) | (refine MC.la true (la_load1 hs rfl (by rfl)) rfl ?_) | (refine MC.part rfl rfl (fun h => absurd h (by first | decide | omega)) (fun _ => ?_)) | (refine MC.part rfl rfl (fun _ => ?_) (fun h => absurd (by first | decide | omega) h)) | (refine MC.cond rfl (fun h => absurd h (by first | decide | omega)) (fun _ => ?_)) | (refine MC.cond rfl (fun _ => ?_) (fun h => absurd (by first | decide | omega) h)))
          refine MC.meet (by repeat (first | exact trivial | refine ⟨rfl, ?_⟩)) ?_
          rw [hb]
          have hs := hs.pickF 2 [0] rfl rfl
          (try dsimp only [List.eraseIdx, List.cons_append, List.nil_append, List.drop_succ_cons, List.drop_zero, List.append_eq] at hs)
          by_cases hdm : done < m
          · simp only [if_pos hdm, if_true] at hs ⊢; exact hs
          · simp only [if_neg hdm, if_false] at hs ⊢; exact hs
    · have h2 : ¬ (i : Int) < 60 := h2
      have hO2 : D.O.length ≤ 100000 := by omega
      have hw0 := hwg 0 (by omega) (by omega)
      repeat (first | (refine MC.run1 tab 1000 rfl rfl (by first | exact True.intro | (simp only [Conds, rng, Int.toNat_natCast, List.length_append, bytesV_length] <;> omega) | (simp [Conds, rng] <;> omega)) ?_) | (refine MC.la true (la_load1 hs rfl (by rfl)) rfl ?_) | (refine MC.part rfl rfl (fun h => absurd h (by first | decide | omega)) (fun _ => ?_)) | (refine MC.part rfl rfl (fun _ => ?_) (fun h => absurd (by first | decide | omega) h)) | (refine MC.cond rfl (fun h => absurd h (by first | decide | omega)) (fun _ => ?_)) | (refine MC.cond rfl (fun _ => ?_) (fun h => absurd (by first | decide | omega) h)))
      refine MC.does true (does_call rfl (read_spec hs hD hO2)) rfl ?_
      rintro _ w hv
      rw [hw0] at hv
      by_cases hdm : done < m
      · rw [if_pos hdm] at hv
        simp only [if_true] at hv
        obtain ⟨vb, rfl, hs⟩ := hv
        obtain ⟨_, qv, cv, rfl, _⟩ := hs.sl_len
        repeat (first | (refine MC.run1 tab 1000 rfl rfl (by first | exact True.intro | (simp only [Conds, rng, Int.toNat_natCast, List.length_append, bytesV_length] <;> omega) | (simp [Conds, rng] <;> omega)) ?_) | (refine MC.la true (la_load1 hs rfl (by rfl)) rfl ?_) | (refine MC.part rfl rfl (fun h => absurd h (by first | decide | omega)) (fun _ => ?_)) | (refine MC.part rfl rfl (fun _ => ?_) (fun h => absurd (by first | decide | omega) h)) | (refine MC.cond rfl (fun h => absurd h (by first | decide | omega)) (fun _ => ?_)) | (refine MC.cond rfl (fun _ => ?_) (fun h => absurd (by first | decide | omega) h)))
        refine MC.pure (f := false) (po_bin rfl rfl br_bool_eq) rfl ?_
        repeat (first | (refine MC.run1 tab 1000 rfl rfl (by first | exact True.intro | (simp only [Conds, rng, Int.toNat_natCast, List.length_append, bytesV_length] <;> omega) | (simp [Conds, rng] <;> omega)) ?_) | (refine MC.la true (la_load1 hs rfl (by rfl)) rfl ?_) | (refine MC.part rfl rfl (fun h => absurd h (by first | decide | omega)) (fun _ => ?_)) | (refine MC.part rfl rfl (fun _ => ?_) (fun h => absurd (by first | decide | omega) h)) | (refine MC.cond rfl (fun h => absurd h (by first | decide | omega)) (fun _ => ?_)) | (refine MC.cond rfl (fun _ => ?_) (fun h => absurd (by first | decide | omega) h)))
        refine MC.ret rfl ?_
        exact ⟨by simp [tup]; omega, Suf.sat hs⟩
      · rw [if_neg hdm] at hv
        simp only [show ¬ ((150 : Int) = 0) by decide, if_false] at hv
        obtain ⟨rfl, hs⟩ := hv
        repeat (first | (refine MC.run1 tab 1000 rfl rfl (by first | exact True.intro | (simp only [Conds, rng, Int.toNat_natCast, List.length_append, bytesV_length] <;> omega) | (simp [Conds, rng] <;> omega)) ?_) | (refine MC.la true (la_load1 hs rfl (by rfl)) rfl ?_) | (refine MC.part rfl rfl (fun h => absurd h (by first | decide | omega)) (fun _ => ?_)) | (refine MC.part rfl rfl (fun _ => ?_) (fun h => absurd (by first | decide | omega) h)) | (refine MC.cond rfl (fun h => absurd h (by first | decide | omega)) (fun _ => ?_)) | (refine MC.cond rfl (fun _ => ?_) (fun h => absurd (by first | decide | omega) h)))
        refine MC.pure (f := false) (po_bin rfl rfl br_bool_eq) rfl ?_
        repeat (first | (refine MC.run1 tab 1000 rfl rfl (by first | exact True.intro | (simp only [Conds, rng, Int.toNat_natCast, List.length_append, bytesV_length] <;> omega) | (simp [Conds, rng] <;> omega)) ?_) | (refine MC.la true (la_load1 hs rfl (by rfl)) rfl ?_) | (refine MC.part rfl rfl (fun h => absurd h (by first | decide | omega)) (fun _ => ?_)) | (refine MC.part rfl rfl (fun _ => ?_) (fun h => absurd (by first | decide | omega) h)) | (refine MC.cond rfl (fun h => absurd h (by first | decide | omega)) (fun _ => ?_)) | (refine MC.cond rfl (fun _ => ?_) (fun h => absurd (by first | decide | omega) h)))
        refine MC.ret rfl ?_
        exact ⟨by simp [tup]; omega, Suf.sat hs⟩
  · have h1 : ¬ (i : Int) < syncs.length := h1
    have hO2 : D.O.length ≤ 100000 := by omega
    have hw0 := hwg 0 (by omega) (by omega)
    repeat (first | (refine MC.run1 tab 1000 rfl rfl (by first | exact True.intro | (simp only [Conds, rng, Int.toNat_natCast, List.length_append, bytesV_length] <;> omega) | (simp [Conds, rng] <;> omega)) ?_) | (refine MC.la true (la_load1 hs rfl (by rfl)) rfl ?_) | (refine MC.part rfl rfl (fun h => absurd h (by first | decide | omega)) (fun _ => ?_)) | (refine MC.part rfl rfl (fun _ => ?_) (fun h => absurd (by first | decide | omega) h)) | (refine MC.cond rfl (fun h => absurd h (by first | decide | omega)) (fun _ => ?_)) | (refine MC.cond rfl (fun _ => ?_) (fun h => absurd (by first | decide | omega) h)))
    refine MC.does true (does_call rfl (read_spec hs hD hO2)) rfl ?_
    rintro _ w hv
    rw [hw0] at hv
    by_cases hdm : done < m
    · rw [if_pos hdm] at hv
      simp only [if_true] at hv
      obtain ⟨vb, rfl, hs⟩ := hv
      obtain ⟨_, qv, cv, rfl, _⟩ := hs.sl_len
      repeat (first | (refine MC.run1 tab 1000 rfl rfl (by first | exact True.intro | (simp only [Conds, rng, Int.toNat_natCast, List.length_append, bytesV_length] <;> omega) | (simp [Conds, rng] <;> omega)) ?_) | (refine MC.la true (la_load1 hs rfl (by rfl)) rfl ?_) | (refine MC.part rfl rfl (fun h => absurd h (by first | decide | omega)) (fun _ => ?_)) | (refine MC.part rfl rfl (fun _ => ?_) (fun h => absurd (by first | decide | omega) h)) | (refine MC.cond rfl (fun h => absurd h (by first | decide | omega)) (fun _ => ?_)) | (refine MC.cond rfl (fun _ => ?_) (fun h => absurd (by first | decide | omega) h)))
      refine MC.pure (f := false) (po_bin rfl rfl br_bool_eq) rfl ?_
      repeat (first | (refine MC.run1 tab 1000 rfl rfl (by first | exact True.intro | (simp only [Conds, rng, Int.toNat_natCast, List.length_append, bytesV_length] <;> omega) | (simp [Conds, rng] <;> omega)) ?_) | (refine MC.la true (la_load1 hs rfl (by rfl)) rfl ?_) | (refine MC.part rfl rfl (fun h => absurd h (by first | decide | omega)) (fun _ => ?_)) | (refine MC.part rfl rfl (fun _ => ?_) (fun h => absurd (by first | decide | omega) h)) | (refine MC.cond rfl (fun h => absurd h (by first | decide | omega)) (fun _ => ?_)) | (refine MC.cond rfl (fun _ => ?_) (fun h => absurd (by first | decide | omega) h)))
      refine MC.ret rfl ?_
      exact ⟨by simp [tup]; omega, Suf.sat hs⟩
    · rw [if_neg hdm] at hv
      simp only [show ¬ ((150 : Int) = 0) by decide, if_false] at hv
      obtain ⟨rfl, hs⟩ := hv
      repeat (first | (refine MC.run1 tab 1000 rfl rfl (by first | exact True.intro | (simp only [Conds, rng, Int.toNat_natCast, List.length_append, bytesV_length] <;> omega) | (simp [Conds, rng] <;> omega)) ?_) | (refine MC.la true (la_load1 hs rfl (by rfl)) rfl ?_) | (refine MC.part rfl rfl (fun h => absurd h (by first | decide | omega)) (fun _ => ?_)) | (refine MC.part rfl rfl (fun _ => ?_) (fun h => absurd (by first | decide | omega) h)) | (refine MC.cond rfl (fun h => absurd h (by first | decide | omega)) (fun _ => ?_)) | (refine MC.cond rfl (fun _ => ?_) (fun h => absurd (by first | decide | omega) h)))
      refine MC.pure (f := false) (po_bin rfl rfl br_bool_eq) rfl ?_
      repeat (first | (refine MC.run1 tab 1000 rfl rfl (by first | exact True.intro | (simp only [Conds, rng, Int.toNat_natCast, List.length_append, bytesV_length] <;> omega) | (simp [Conds, rng] <;> omega)) ?_) | (refine MC.la true (la_load1 hs rfl (by rfl)) rfl ?_) | (refine MC.part rfl rfl (fun h => absurd h (by first | decide | omega)) (fun _ => ?_)) | (refine MC.part rfl rfl (fun _ => ?_) (fun h => absurd (by first | decide | omega) h)) | (refine MC.cond rfl (fun h => absurd h (by first | decide | omega)) (fun _ => ?_)) | (refine MC.cond rfl (fun _ => ?_) (fun h => absurd (by first | decide | omega) h)))
      refine MC.ret rfl ?_
      exact ⟨by simp [tup]; omega, Suf.sat hs⟩
end Go.Proofs.Ytoljbocejclaeaa
