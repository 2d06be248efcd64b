/- The document's journal: Behind, Clash. -/
import Derived.Test.YtoigogonccjagaaDoorJaa
import Derived.Test.YtoigogonccjagaaDoorJta
set_option linter.unusedVariables false
set_option linter.unusedSimpArgs false
namespace Go.Proofs.YtoigogonccjagaaDoor
open Go Go.Sl Go.Jn
attribute [local irreducible] LooksAt sumB sumF recB recsB

theorem rbehind_spec {F : List Assn} {G : List Value → List Assn} {r p : Nat} {cs : List Value} {D : Dev} {w : World} {vk : Value} {kept : List Bool} {tn a : Int} (hs : Sat (rdev p D :: F) w) [hA : At F r (ptr p :: int 1 :: int 6 :: cs) 65 G] (hD : D.ok) (hl8 : D.S.length = 8) (hO : D.O.length ≤ 100000) (hk : RdS F 1 vk kept.length (boolsV kept)) :
    Ret Tryd.prog 29 [ptr r, vk, int tn, int a] w fun v w' => v = str ((D.lose kept tn a).run 1 6) ∧ Sat F w' := by
  obtain ⟨qk, ck, rfl, hck, _⟩ := hk.shape
  have hLl : (D.lose kept tn a).S.length = 8 := by simp only [Dev.lose, lost_length]; exact hl8
  refine Ret.enter [(true, ptr r), (true, .slice qk kept.length ck), (true, int tn), (true, int a)] _ Tryd.func29 rfl Tryd.ntmps29 rfl ?_
  repeat (first | (refine MC.run1 tab 1000 rfl rfl (by first | exact True.intro | (simp only [Conds, rng, Int.toNat_natCast, List.length_append, bytesV_length] <;> omega) | (simp [Conds, rng] <;> omega) | (simp only [Conds, rng, wrap_u8, wrap_u16, wrap_u32, wrap_u64] <;> omega)) ?_) | (refine MC.la true (la_load1 hs rfl (by rfl)) rfl ?_) | (refine MC.part rfl rfl (fun h => absurd h (by first | decide | omega)) (fun _ => ?_)) | (refine MC.part rfl rfl (fun _ => ?_) (fun h => absurd (by first | decide | omega) h)) | (refine MC.cond rfl (fun h => absurd h (by first | decide | omega)) (fun _ => ?_)) | (refine MC.cond rfl (fun _ => ?_) (fun h => absurd (by first | decide | omega) h)))
  refine MC.draw hs [0,1,2,3,4,5,6,8,9,10,11,12,13,14,15,7,16,17,18,19,20,21] (by rfl) ?_; intro w hs
  have hlo := rlose_spec (tn := tn) (a := a) hs hD hO hk
  repeat (first | (refine MC.run1 tab 1000 rfl rfl (by first | exact True.intro | (simp only [Conds, rng, Int.toNat_natCast, List.length_append, bytesV_length] <;> omega) | (simp [Conds, rng] <;> omega) | (simp only [Conds, rng, wrap_u8, wrap_u16, wrap_u32, wrap_u64] <;> omega)) ?_) | (refine MC.laD true (la_load1 hs rfl (by rfl)) rfl ?_) | (refine MC.part rfl rfl (fun h => absurd h (by first | decide | omega)) (fun _ => ?_)) | (refine MC.part rfl rfl (fun _ => ?_) (fun h => absurd (by first | decide | omega) h)) | (refine MC.cond rfl (fun h => absurd h (by first | decide | omega)) (fun _ => ?_)) | (refine MC.cond rfl (fun _ => ?_) (fun h => absurd (by first | decide | omega) h)))
  refine MC.doesK true (does_call rfl hlo) rfl rfl rfl ?_
  rintro _ w ⟨q, rfl, hs⟩
  refine ⟨(by repeat (first | exact True.intro | refine ⟨At.sat hs, ?_⟩ | refine ⟨Suf.sat hs, ?_⟩)), ?_⟩
  have hst := rstretch_spec (fr := 1) (n := 6) hs (Dev.lose_ok hD kept tn a) rfl (by show (0 : Int) ≠ 1; decide) (by rw [hLl]; decide)
  generalize (D.lose kept tn a).run 1 6 = S1 at hst ⊢
  repeat (first | (refine MC.run1 tab 1000 rfl rfl (by first | exact True.intro | (simp only [Conds, rng, Int.toNat_natCast, List.length_append, bytesV_length] <;> omega) | (simp [Conds, rng] <;> omega) | (simp only [Conds, rng, wrap_u8, wrap_u16, wrap_u32, wrap_u64] <;> omega)) ?_) | (refine MC.laD true (la_load1 hs rfl (by rfl)) rfl ?_) | (refine MC.part rfl rfl (fun h => absurd h (by first | decide | omega)) (fun _ => ?_)) | (refine MC.part rfl rfl (fun _ => ?_) (fun h => absurd (by first | decide | omega) h)) | (refine MC.cond rfl (fun h => absurd h (by first | decide | omega)) (fun _ => ?_)) | (refine MC.cond rfl (fun _ => ?_) (fun h => absurd (by first | decide | omega) h)))
  refine MC.doesK true (does_call rfl hst) rfl rfl rfl ?_
  rintro _ w ⟨rfl, hs⟩
  refine ⟨(by repeat (first | exact True.intro | refine ⟨At.sat hs, ?_⟩ | refine ⟨Suf.sat hs, ?_⟩)), ?_⟩
  repeat (first | (refine MC.run1 tab 1000 rfl rfl (by first | exact True.intro | (simp only [Conds, rng, Int.toNat_natCast, List.length_append, bytesV_length] <;> omega) | (simp [Conds, rng] <;> omega) | (simp only [Conds, rng, wrap_u8, wrap_u16, wrap_u32, wrap_u64] <;> omega)) ?_) | (refine MC.laD true (la_load1 hs rfl (by rfl)) rfl ?_) | (refine MC.part rfl rfl (fun h => absurd h (by first | decide | omega)) (fun _ => ?_)) | (refine MC.part rfl rfl (fun _ => ?_) (fun h => absurd (by first | decide | omega) h)) | (refine MC.cond rfl (fun h => absurd h (by first | decide | omega)) (fun _ => ?_)) | (refine MC.cond rfl (fun _ => ?_) (fun h => absurd (by first | decide | omega) h)))
  repeat (first | (refine MC.run1 tab 1000 rfl rfl (by first | exact True.intro | (simp only [Conds, rng, Int.toNat_natCast, List.length_append, bytesV_length] <;> omega) | (simp [Conds, rng] <;> omega) | (simp only [Conds, rng, wrap_u8, wrap_u16, wrap_u32, wrap_u64] <;> omega)) ?_) | (refine MC.la true (la_load1 hs rfl (by rfl)) rfl ?_) | (refine MC.part rfl rfl (fun h => absurd h (by first | decide | omega)) (fun _ => ?_)) | (refine MC.part rfl rfl (fun _ => ?_) (fun h => absurd (by first | decide | omega) h)) | (refine MC.cond rfl (fun h => absurd h (by first | decide | omega)) (fun _ => ?_)) | (refine MC.cond rfl (fun _ => ?_) (fun h => absurd (by first | decide | omega) h)))
  refine MC.ret rfl ?_
  exact ⟨rfl, hs.tail⟩
theorem byteAt_eq {s r : Bs} {k : Nat} : byteAt s k = byteAt r k ↔ s.getD k 0 = r.getD k 0 := by
  simp only [byteAt, List.getD_eq_getElem?_getD]
  constructor
  · intro h; exact UInt8.toNat_inj.1 (by omega)
  · intro h; rw [h]
theorem byteAt_zero {s : Bs} {k : Nat} : byteAt s k = 0 ↔ s.getD k 0 = 0 := by
  simp only [byteAt, List.getD_eq_getElem?_getD]
  constructor
  · intro h; exact UInt8.toNat_inj.1 (by show _ = 0; omega)
  · intro h; rw [h]; rfl
set_option maxHeartbeats 4000000 in
theorem clash_spec {F : List Assn} {w : World} {vb : Value} {l : List (Value × Bs)} {s0 : Bs} (hs : Sat F w) (hl : RdS F 1 vb l.length (hd l)) (hxb : ∀ x ∈ l, RdS F 1 x.1 x.2.length (bytesV x.2) ∧ x.2.length ≤ 65535) (hs0 : s0.length ≤ 1000000) (hfew : l.length ≤ 1000000) :
    Ret Tryd.prog 28 [str s0, int 2, vb] w fun v w' => v = bool (clashB 2 1 s0 (bd l)) ∧ Sat F w' := by
  obtain ⟨ql, cl, rfl, hcl, _⟩ := hl.shape
  refine Ret.enter [(true, str s0), (true, int 2), (true, .slice ql l.length cl)] _ Tryd.func28 rfl Tryd.ntmps28 rfl ?_
  repeat (first | (refine MC.run1 tab 1000 rfl rfl (by first | exact True.intro | (simp only [Conds, rng, Int.toNat_natCast, List.length_append, bytesV_length] <;> omega) | (simp [Conds, rng] <;> omega) | (simp only [Conds, rng, wrap_u8, wrap_u16, wrap_u32, wrap_u64] <;> omega)) ?_) | (refine MC.la true (la_load1 hs rfl (by rfl)) rfl ?_) | (refine MC.part rfl rfl (fun h => absurd h (by first | decide | omega)) (fun _ => ?_)) | (refine MC.part rfl rfl (fun _ => ?_) (fun h => absurd (by first | decide | omega) h)) | (refine MC.cond rfl (fun h => absurd h (by first | decide | omega)) (fun _ => ?_)) | (refine MC.cond rfl (fun _ => ?_) (fun h => absurd (by first | decide | omega) h)))
  refine MC.loop (σ := Nat × Bs) (fun x => [(0, true, str x.2), (1, true, int 2), (2, true, .slice ql l.length cl), (7, true, int ((x.1 : Nat) : Int))]) (fun x w => x.1 ≤ l.length ∧ x.2.length ≤ 1000000 ∧ clashB 2 1 s0 (bd l) = clashB 2 (x.1 + 1) x.2 ((bd l).drop x.1) ∧ Sat F w) (fun x => l.length - x.1) (0, s0) (by repeat (first | exact trivial | refine ⟨rfl, ?_⟩)) ⟨Nat.zero_le _, hs0, rfl, hs⟩ ?_
  rintro ⟨i, s⟩ w ⟨hi, hsl, hcl, hs⟩
  dsimp only [] at hi hsl hcl ⊢
  rcases Nat.lt_or_ge i l.length with hlt | hge
  · obtain ⟨bl, ol, rfl, hrl⟩ := hl.at_ (by omega)
    have hat := hd_at l i hlt
    obtain ⟨hxr, hxl⟩ := hxb _ (List.getElem_mem hlt)
    have hdr : (bd l).drop i = l[i].2 :: (bd l).drop (i + 1) := by
      rw [List.drop_eq_getElem_cons (by rw [bd_length]; exact hlt)]; simp [bd]
    rw [hdr] at hcl
    obtain ⟨x, hx⟩ : ∃ x, l[i] = x := ⟨_, rfl⟩
    rw [hx] at hat hxr hxl hcl
    obtain ⟨qx, cx, hqx, _⟩ := hxr.shape
    rw [hqx] at hat hxr
    have hrr := rrecord_spec (e := 2) (n := i + 1) hs hxr hxl (by decide) (by omega)
    have hRl := recB_length 2 (i + 1) x.2
    rw [clashB] at hcl
    obtain ⟨R, hR⟩ : ∃ R, recB 2 (i + 1) x.2 = R := ⟨_, rfl⟩
    rw [hR] at hrr hRl hcl
    have ei : ((i : Nat) : Int) + 1 = ((i + 1 : Nat) : Int) := by omega
    repeat (first | (refine MC.run1 tab 1000 rfl rfl (by first | exact True.intro | (simp only [Conds, rng, Int.toNat_natCast, List.length_append, bytesV_length] <;> omega) | (simp [Conds, rng] <;> omega) | (simp only [Conds, rng, wrap_u8, wrap_u16, wrap_u32, wrap_u64] <;> omega)) ?_) | (refine MC.la true (la_load1 hs rfl (by rfl)) rfl ?_) | (refine MC.part rfl rfl (fun h => absurd h (by first | decide | omega)) (fun _ => ?_)) | (refine MC.part rfl rfl (fun _ => ?_) (fun h => absurd (by first | decide | omega) h)) | (refine MC.cond rfl (fun h => absurd h (by first | decide | omega)) (fun _ => ?_)) | (refine MC.cond rfl (fun _ => ?_) (fun h => absurd (by first | decide | omega) h)))
    refine MC.la true (la_load1_rd hrl hs (j := ((i : Nat) : Int).toNat * 1) rfl hat) rfl ?_
    repeat (first | (refine MC.run1 tab 1000 rfl rfl (by first | exact True.intro | (simp only [Conds, rng, Int.toNat_natCast, List.length_append, bytesV_length] <;> omega) | (simp [Conds, rng] <;> omega) | (simp only [Conds, rng, wrap_u8, wrap_u16, wrap_u32, wrap_u64] <;> omega)) ?_) | (refine MC.la true (la_load1 hs rfl (by rfl)) rfl ?_) | (refine MC.part rfl rfl (fun h => absurd h (by first | decide | omega)) (fun _ => ?_)) | (refine MC.part rfl rfl (fun _ => ?_) (fun h => absurd (by first | decide | omega) h)) | (refine MC.cond rfl (fun h => absurd h (by first | decide | omega)) (fun _ => ?_)) | (refine MC.cond rfl (fun _ => ?_) (fun h => absurd (by first | decide | omega) h)))
    rw [ei]
    refine MC.does true (does_call rfl (hrr)) rfl ?_
    rintro _ w ⟨rfl, hs⟩
    rcases Nat.lt_or_ge s.length R.length with hsh | hsh
    · rw [if_pos (by omega)] at hcl
      rw [hcl]
      repeat (first | (refine MC.run1 tab 1000 rfl rfl (by first | exact True.intro | (simp only [Conds, rng, Int.toNat_natCast, List.length_append, bytesV_length] <;> omega) | (simp [Conds, rng] <;> omega) | (simp only [Conds, rng, wrap_u8, wrap_u16, wrap_u32, wrap_u64] <;> omega)) ?_) | (refine MC.la true (la_load1 hs rfl (by rfl)) rfl ?_) | (refine MC.part rfl rfl (fun h => absurd h (by first | decide | omega)) (fun _ => ?_)) | (refine MC.part rfl rfl (fun _ => ?_) (fun h => absurd (by first | decide | omega) h)) | (refine MC.cond rfl (fun h => absurd h (by first | decide | omega)) (fun _ => ?_)) | (refine MC.cond rfl (fun _ => ?_) (fun h => absurd (by first | decide | omega) h)))
      refine MC.ret rfl ?_
      exact ⟨rfl, hs⟩
    rw [if_neg (by omega)] at hcl
    have etk : s.take (((R.length : Nat) : Int)).toNat = s.take (14 + x.2.length) := by rw [Int.toNat_natCast, hRl]
    repeat (first | (refine MC.run1 tab 1000 rfl rfl (by first | exact True.intro | (simp only [Conds, rng, Int.toNat_natCast, List.length_append, bytesV_length] <;> omega) | (simp [Conds, rng] <;> omega) | (simp only [Conds, rng, wrap_u8, wrap_u16, wrap_u32, wrap_u64] <;> omega)) ?_) | (refine MC.la true (la_load1 hs rfl (by rfl)) rfl ?_) | (refine MC.part rfl rfl (fun h => absurd h (by first | decide | omega)) (fun _ => ?_)) | (refine MC.part rfl rfl (fun _ => ?_) (fun h => absurd (by first | decide | omega) h)) | (refine MC.cond rfl (fun h => absurd h (by first | decide | omega)) (fun _ => ?_)) | (refine MC.cond rfl (fun _ => ?_) (fun h => absurd (by first | decide | omega) h)))
    rw [etk]
    by_cases ht : s.take (14 + x.2.length) = R
    · rw [if_pos ht] at hcl
      rw [ht]
      refine MC.cond rfl (fun h => by exact absurd rfl h) (fun _ => ?_)
      repeat (first | (refine MC.run1 tab 1000 rfl rfl (by first | exact True.intro | (simp only [Conds, rng, Int.toNat_natCast, List.length_append, bytesV_length] <;> omega) | (simp [Conds, rng] <;> omega) | (simp only [Conds, rng, wrap_u8, wrap_u16, wrap_u32, wrap_u64] <;> omega)) ?_) | (refine MC.la true (la_load1 hs rfl (by rfl)) rfl ?_) | (refine MC.part rfl rfl (fun h => absurd h (by first | decide | omega)) (fun _ => ?_)) | (refine MC.part rfl rfl (fun _ => ?_) (fun h => absurd (by first | decide | omega) h)) | (refine MC.cond rfl (fun h => absurd h (by first | decide | omega)) (fun _ => ?_)) | (refine MC.cond rfl (fun _ => ?_) (fun h => absurd (by first | decide | omega) h)))
      have edr : s.drop (((R.length : Nat) : Int)).toNat = s.drop (14 + x.2.length) := by rw [Int.toNat_natCast, hRl]
      rw [edr]
      exact MC.again (i + 1, s.drop (14 + x.2.length)) (by repeat (first | exact trivial | refine ⟨rfl, ?_⟩)) ⟨hlt, by rw [List.length_drop]; omega, hcl, hs⟩ (by show l.length - (i + 1) < l.length - i; omega)
    rw [if_neg ht] at hcl
    refine MC.cond rfl (fun _ => ?_) (fun h => absurd ht h)
    repeat (first | (refine MC.run1 tab 1000 rfl rfl (by first | exact True.intro | (simp only [Conds, rng, Int.toNat_natCast, List.length_append, bytesV_length] <;> omega) | (simp [Conds, rng] <;> omega) | (simp only [Conds, rng, wrap_u8, wrap_u16, wrap_u32, wrap_u64] <;> omega)) ?_) | (refine MC.la true (la_load1 hs rfl (by rfl)) rfl ?_) | (refine MC.part rfl rfl (fun h => absurd h (by first | decide | omega)) (fun _ => ?_)) | (refine MC.part rfl rfl (fun _ => ?_) (fun h => absurd (by first | decide | omega) h)) | (refine MC.cond rfl (fun h => absurd h (by first | decide | omega)) (fun _ => ?_)) | (refine MC.cond rfl (fun _ => ?_) (fun h => absurd (by first | decide | omega) h)))
    refine MC.loop (σ := Nat) (fun k => [(0, true, str s), (1, true, int 2), (2, true, .slice (some ⟨bl, ol, none⟩) l.length cl), (7, true, int ((i : Nat) : Int)), (8, true, str R), (9, true, int ((k : Nat) : Int))]) (fun k w => k ≤ R.length ∧ (∀ j, j < k → s.getD j 0 = R.getD j 0 ∨ s.getD j 0 = 0) ∧ Sat F w) (fun k => R.length - k) 0 (by repeat (first | exact trivial | refine ⟨rfl, ?_⟩)) ⟨Nat.zero_le _, fun j h => by omega, hs⟩ ?_
    clear hs
    rintro k w ⟨hk, htk, hs⟩
    rcases Nat.lt_or_ge k R.length with hkl | hkl
    · have e1 : byteAt s ((k : Nat) : Int).toNat = byteAt s k := by rw [Int.toNat_natCast]
      have e2 : byteAt R ((k : Nat) : Int).toNat = byteAt R k := by rw [Int.toNat_natCast]
      repeat (first | (refine MC.run1 tab 1000 rfl rfl (by first | exact True.intro | (simp only [Conds, rng, Int.toNat_natCast, List.length_append, bytesV_length] <;> omega) | (simp [Conds, rng] <;> omega) | (simp only [Conds, rng, wrap_u8, wrap_u16, wrap_u32, wrap_u64] <;> omega)) ?_) | (refine MC.la true (la_load1 hs rfl (by rfl)) rfl ?_) | (refine MC.part rfl rfl (fun h => absurd h (by first | decide | omega)) (fun _ => ?_)) | (refine MC.part rfl rfl (fun _ => ?_) (fun h => absurd (by first | decide | omega) h)) | (refine MC.cond rfl (fun h => absurd h (by first | decide | omega)) (fun _ => ?_)) | (refine MC.cond rfl (fun _ => ?_) (fun h => absurd (by first | decide | omega) h)))
      refine MC.draw hs [0,1,2,3,4,5,6,7,8,9,10,11,12] (by rfl) ?_; intro w hs
      repeat (first | (refine MC.run1 tab 1000 rfl rfl (by first | exact True.intro | (simp only [Conds, rng, Int.toNat_natCast, List.length_append, bytesV_length] <;> omega) | (simp [Conds, rng] <;> omega) | (simp only [Conds, rng, wrap_u8, wrap_u16, wrap_u32, wrap_u64] <;> omega)) ?_) | (refine MC.laD true (la_load1 hs rfl (by rfl)) rfl ?_) | (refine MC.part rfl rfl (fun h => absurd h (by first | decide | omega)) (fun _ => ?_)) | (refine MC.part rfl rfl (fun _ => ?_) (fun h => absurd (by first | decide | omega) h)) | (refine MC.cond rfl (fun h => absurd h (by first | decide | omega)) (fun _ => ?_)) | (refine MC.cond rfl (fun _ => ?_) (fun h => absurd (by first | decide | omega) h)))
      by_cases h1 : byteAt s ((k : Nat) : Int).toNat = byteAt R ((k : Nat) : Int).toNat
      · rw [e1, e2] at h1
        repeat (first | (refine MC.run1 tab 1000 rfl rfl (by first | exact True.intro | (simp only [Conds, rng, Int.toNat_natCast, List.length_append, bytesV_length] <;> omega) | (simp [Conds, rng] <;> omega) | (simp only [Conds, rng, wrap_u8, wrap_u16, wrap_u32, wrap_u64] <;> omega)) ?_) | (refine MC.laD true (la_load1 hs rfl (by rfl)) rfl ?_) | (refine MC.part rfl rfl (fun h => absurd h (by first | decide | omega)) (fun _ => ?_)) | (refine MC.part rfl rfl (fun _ => ?_) (fun h => absurd (by first | decide | omega) h)) | (refine MC.cond rfl (fun h => absurd h (by first | decide | omega)) (fun _ => ?_)) | (refine MC.cond rfl (fun _ => ?_) (fun h => absurd (by first | decide | omega) h)))
        repeat (first | (refine MC.run1 tab 1000 rfl rfl (by first | exact True.intro | (simp only [Conds, rng, Int.toNat_natCast, List.length_append, bytesV_length] <;> omega) | (simp [Conds, rng] <;> omega) | (simp only [Conds, rng, wrap_u8, wrap_u16, wrap_u32, wrap_u64] <;> omega)) ?_) | (refine MC.la true (la_load1 hs rfl (by rfl)) rfl ?_) | (refine MC.part rfl rfl (fun h => absurd h (by first | decide | omega)) (fun _ => ?_)) | (refine MC.part rfl rfl (fun _ => ?_) (fun h => absurd (by first | decide | omega) h)) | (refine MC.cond rfl (fun h => absurd h (by first | decide | omega)) (fun _ => ?_)) | (refine MC.cond rfl (fun _ => ?_) (fun h => absurd (by first | decide | omega) h)))
        refine MC.again (k + 1) (by repeat (first | exact trivial | refine ⟨rfl, ?_⟩)) ⟨hkl, fun j h => ?_, hs⟩ (by omega)
        rcases Nat.lt_or_ge j k with h' | h'
        · exact htk j h'
        · obtain rfl : j = k := by omega
          exact .inl (byteAt_eq.1 h1)
      · by_cases h2 : byteAt s ((k : Nat) : Int).toNat = 0
        · repeat (first | (refine MC.run1 tab 1000 rfl rfl (by first | exact True.intro | (simp only [Conds, rng, Int.toNat_natCast, List.length_append, bytesV_length] <;> omega) | (simp [Conds, rng] <;> omega) | (simp only [Conds, rng, wrap_u8, wrap_u16, wrap_u32, wrap_u64] <;> omega)) ?_) | (refine MC.laD true (la_load1 hs rfl (by rfl)) rfl ?_) | (refine MC.part rfl rfl (fun h => absurd h (by first | decide | omega)) (fun _ => ?_)) | (refine MC.part rfl rfl (fun _ => ?_) (fun h => absurd (by first | decide | omega) h)) | (refine MC.cond rfl (fun h => absurd h (by first | decide | omega)) (fun _ => ?_)) | (refine MC.cond rfl (fun _ => ?_) (fun h => absurd (by first | decide | omega) h)))
          repeat (first | (refine MC.run1 tab 1000 rfl rfl (by first | exact True.intro | (simp only [Conds, rng, Int.toNat_natCast, List.length_append, bytesV_length] <;> omega) | (simp [Conds, rng] <;> omega) | (simp only [Conds, rng, wrap_u8, wrap_u16, wrap_u32, wrap_u64] <;> omega)) ?_) | (refine MC.la true (la_load1 hs rfl (by rfl)) rfl ?_) | (refine MC.part rfl rfl (fun h => absurd h (by first | decide | omega)) (fun _ => ?_)) | (refine MC.part rfl rfl (fun _ => ?_) (fun h => absurd (by first | decide | omega) h)) | (refine MC.cond rfl (fun h => absurd h (by first | decide | omega)) (fun _ => ?_)) | (refine MC.cond rfl (fun _ => ?_) (fun h => absurd (by first | decide | omega) h)))
          rw [e1] at h2
          refine MC.again (k + 1) (by repeat (first | exact trivial | refine ⟨rfl, ?_⟩)) ⟨hkl, fun j h => ?_, hs⟩ (by omega)
          rcases Nat.lt_or_ge j k with h' | h'
          · exact htk j h'
          · obtain rfl : j = k := by omega
            exact .inr (byteAt_zero.1 h2)
        · have hnt : ¬ torn R s := fun h => by
            rw [e1] at h2
            rw [e1, e2] at h1
            rcases h k hkl with h' | h'
            · exact h1 (byteAt_eq.2 h')
            · exact h2 (byteAt_zero.2 h')
          rw [if_neg hnt] at hcl
          rw [hcl]
          repeat (first | (refine MC.run1 tab 1000 rfl rfl (by first | exact True.intro | (simp only [Conds, rng, Int.toNat_natCast, List.length_append, bytesV_length] <;> omega) | (simp [Conds, rng] <;> omega) | (simp only [Conds, rng, wrap_u8, wrap_u16, wrap_u32, wrap_u64] <;> omega)) ?_) | (refine MC.laD true (la_load1 hs rfl (by rfl)) rfl ?_) | (refine MC.part rfl rfl (fun h => absurd h (by first | decide | omega)) (fun _ => ?_)) | (refine MC.part rfl rfl (fun _ => ?_) (fun h => absurd (by first | decide | omega) h)) | (refine MC.cond rfl (fun h => absurd h (by first | decide | omega)) (fun _ => ?_)) | (refine MC.cond rfl (fun _ => ?_) (fun h => absurd (by first | decide | omega) h)))
          repeat (first | (refine MC.run1 tab 1000 rfl rfl (by first | exact True.intro | (simp only [Conds, rng, Int.toNat_natCast, List.length_append, bytesV_length] <;> omega) | (simp [Conds, rng] <;> omega) | (simp only [Conds, rng, wrap_u8, wrap_u16, wrap_u32, wrap_u64] <;> omega)) ?_) | (refine MC.la true (la_load1 hs rfl (by rfl)) rfl ?_) | (refine MC.part rfl rfl (fun h => absurd h (by first | decide | omega)) (fun _ => ?_)) | (refine MC.part rfl rfl (fun _ => ?_) (fun h => absurd (by first | decide | omega) h)) | (refine MC.cond rfl (fun h => absurd h (by first | decide | omega)) (fun _ => ?_)) | (refine MC.cond rfl (fun _ => ?_) (fun h => absurd (by first | decide | omega) h)))
          refine MC.ret rfl ?_
          exact ⟨rfl, hs⟩
    · obtain rfl : k = R.length := by omega
      have htn : torn R s := htk
      rw [if_pos htn] at hcl
      rw [hcl]
      have hsd := stands_spec (s := s) hs hsl
      obtain ⟨X, hX⟩ : ∃ X, standsB s = X := ⟨_, rfl⟩
      obtain ⟨xe, xn, xb, ok⟩ := X
      rw [hX] at hsd ⊢
      dsimp only [] at hsd ⊢
      repeat (first | (refine MC.run1 tab 1000 rfl rfl (by first | exact True.intro | (simp only [Conds, rng, Int.toNat_natCast, List.length_append, bytesV_length] <;> omega) | (simp [Conds, rng] <;> omega) | (simp only [Conds, rng, wrap_u8, wrap_u16, wrap_u32, wrap_u64] <;> omega)) ?_) | (refine MC.la true (la_load1 hs rfl (by rfl)) rfl ?_) | (refine MC.part rfl rfl (fun h => absurd h (by first | decide | omega)) (fun _ => ?_)) | (refine MC.part rfl rfl (fun _ => ?_) (fun h => absurd (by first | decide | omega) h)) | (refine MC.cond rfl (fun h => absurd h (by first | decide | omega)) (fun _ => ?_)) | (refine MC.cond rfl (fun _ => ?_) (fun h => absurd (by first | decide | omega) h)))
      refine MC.does true (does_call rfl (hsd)) rfl ?_
      rintro _ w ⟨vb2, rfl, hs⟩
      cases ok with
      | false =>
        repeat (first | (refine MC.run1 tab 1000 rfl rfl (by first | exact True.intro | (simp only [Conds, rng, Int.toNat_natCast, List.length_append, bytesV_length] <;> omega) | (simp [Conds, rng] <;> omega) | (simp only [Conds, rng, wrap_u8, wrap_u16, wrap_u32, wrap_u64] <;> omega)) ?_) | (refine MC.la true (la_load1 hs rfl (by rfl)) rfl ?_) | (refine MC.part rfl rfl (fun h => absurd h (by first | decide | omega)) (fun _ => ?_)) | (refine MC.part rfl rfl (fun _ => ?_) (fun h => absurd (by first | decide | omega) h)) | (refine MC.cond rfl (fun h => absurd h (by first | decide | omega)) (fun _ => ?_)) | (refine MC.cond rfl (fun _ => ?_) (fun h => absurd (by first | decide | omega) h)))
        refine MC.ret rfl ?_
        exact ⟨rfl, hs⟩
      | true =>
        by_cases hxe : xe = 2
        · subst hxe
          repeat (first | (refine MC.run1 tab 1000 rfl rfl (by first | exact True.intro | (simp only [Conds, rng, Int.toNat_natCast, List.length_append, bytesV_length] <;> omega) | (simp [Conds, rng] <;> omega) | (simp only [Conds, rng, wrap_u8, wrap_u16, wrap_u32, wrap_u64] <;> omega)) ?_) | (refine MC.la true (la_load1 hs rfl (by rfl)) rfl ?_) | (refine MC.part rfl rfl (fun h => absurd h (by first | decide | omega)) (fun _ => ?_)) | (refine MC.part rfl rfl (fun _ => ?_) (fun h => absurd (by first | decide | omega) h)) | (refine MC.cond rfl (fun h => absurd h (by first | decide | omega)) (fun _ => ?_)) | (refine MC.cond rfl (fun _ => ?_) (fun h => absurd (by first | decide | omega) h)))
          refine MC.ret rfl ?_
          refine ⟨?_, hs⟩
          have e : decide (((xn : Nat) : Int) = ((i : Nat) : Int) + 1) = decide (xn = i + 1) := decide_eq_decide.2 (by omega)
          simp [e, tup]
        · repeat (first | (refine MC.run1 tab 1000 rfl rfl (by first | exact True.intro | (simp only [Conds, rng, Int.toNat_natCast, List.length_append, bytesV_length] <;> omega) | (simp [Conds, rng] <;> omega) | (simp only [Conds, rng, wrap_u8, wrap_u16, wrap_u32, wrap_u64] <;> omega)) ?_) | (refine MC.la true (la_load1 hs rfl (by rfl)) rfl ?_) | (refine MC.part rfl rfl (fun h => absurd h (by first | decide | omega)) (fun _ => ?_)) | (refine MC.part rfl rfl (fun _ => ?_) (fun h => absurd (by first | decide | omega) h)) | (refine MC.cond rfl (fun h => absurd h (by first | decide | omega)) (fun _ => ?_)) | (refine MC.cond rfl (fun _ => ?_) (fun h => absurd (by first | decide | omega) h)))
          refine MC.ret rfl ?_
          exact ⟨by simp [hxe, tup], hs⟩
  · obtain rfl : i = l.length := by omega
    have e : (bd l).drop l.length = [] := by rw [← bd_length l, List.drop_length]
    rw [e] at hcl
    rw [hcl]
    repeat (first | (refine MC.run1 tab 1000 rfl rfl (by first | exact True.intro | (simp only [Conds, rng, Int.toNat_natCast, List.length_append, bytesV_length] <;> omega) | (simp [Conds, rng] <;> omega) | (simp only [Conds, rng, wrap_u8, wrap_u16, wrap_u32, wrap_u64] <;> omega)) ?_) | (refine MC.la true (la_load1 hs rfl (by rfl)) rfl ?_) | (refine MC.part rfl rfl (fun h => absurd h (by first | decide | omega)) (fun _ => ?_)) | (refine MC.part rfl rfl (fun _ => ?_) (fun h => absurd (by first | decide | omega) h)) | (refine MC.cond rfl (fun h => absurd h (by first | decide | omega)) (fun _ => ?_)) | (refine MC.cond rfl (fun _ => ?_) (fun h => absurd (by first | decide | omega) h)))
    refine MC.ret rfl ?_
    exact ⟨rfl, hs⟩
end Go.Proofs.YtoigogonccjagaaDoor
