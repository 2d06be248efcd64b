/- The laws' helpers for roots: Ints, fit; the plain law of what a sector reads as. -/
import Derived.Test.YtoljbocejclaeaaRg
set_option linter.unusedVariables false
set_option linter.unusedSimpArgs false
namespace Go.Proofs.Ytoljbocejclaeaa
open Go Go.Sl
attribute [local irreducible] LooksAt

theorem ints_spec {F : List Assn} {w : World} {va vb : Value} {l m : List Int} (hs : Sat F w) (hl : RdS F 1 va l.length (intsV l)) (hm : RdS F 1 vb m.length (intsV m)) (hb : l.length ≤ 9223372036854775807) :
    Ret Try.prog 30 [va, vb] w fun v w' => v = bool (decide (l = m)) ∧ Sat F w' := by
  obtain ⟨q, c, rfl, hc, _⟩ := hl.shape
  obtain ⟨q', c', rfl, hc', _⟩ := hm.shape
  refine Ret.enter [(true, .slice q l.length c), (true, .slice q' m.length c')] _ Try.func30 rfl Try.ntmps30 rfl ?_
  repeat (first | (refine MC.run1 tab 1000 rfl rfl (by first | exact True.intro | (simp only [Conds, rng, Int.toNat_natCast, List.length_append, bytesV_length] <;> omega) | (simp [Conds, rng] <;> omega) | (simp only [Conds, rng, wrap_u8, wrap_u16, wrap_u32, wrap_u64] <;> omega)) ?_) | (refine MC.la true (la_load1 hs rfl (by rfl)) rfl ?_) | (refine MC.part rfl rfl (fun h => absurd h (by first | decide | omega)) (fun _ => ?_)) | (refine MC.part rfl rfl (fun _ => ?_) (fun h => absurd (by first | decide | omega) h)) | (refine MC.cond rfl (fun h => absurd h (by first | decide | omega)) (fun _ => ?_)) | (refine MC.cond rfl (fun _ => ?_) (fun h => absurd (by first | decide | omega) h)))
  refine MC.cond rfl (fun h => ?_) (fun h => ?_)
  · repeat (first | (refine MC.run1 tab 1000 rfl rfl (by first | exact True.intro | (simp only [Conds, rng, Int.toNat_natCast, List.length_append, bytesV_length] <;> omega) | (simp [Conds, rng] <;> omega) | (simp only [Conds, rng, wrap_u8, wrap_u16, wrap_u32, wrap_u64] <;> omega)) ?_) | (refine MC.la true (la_load1 hs rfl (by rfl)) rfl ?_) | (refine MC.part rfl rfl (fun h => absurd h (by first | decide | omega)) (fun _ => ?_)) | (refine MC.part rfl rfl (fun _ => ?_) (fun h => absurd (by first | decide | omega) h)) | (refine MC.cond rfl (fun h => absurd h (by first | decide | omega)) (fun _ => ?_)) | (refine MC.cond rfl (fun _ => ?_) (fun h => absurd (by first | decide | omega) h)))
    refine MC.ret rfl ?_
    exact ⟨congrArg Value.bool (decide_eq_false fun e => h (by rw [e])).symm, hs⟩
  have hlen : l.length = m.length := by omega
  repeat (first | (refine MC.run1 tab 1000 rfl rfl (by first | exact True.intro | (simp only [Conds, rng, Int.toNat_natCast, List.length_append, bytesV_length] <;> omega) | (simp [Conds, rng] <;> omega) | (simp only [Conds, rng, wrap_u8, wrap_u16, wrap_u32, wrap_u64] <;> omega)) ?_) | (refine MC.la true (la_load1 hs rfl (by rfl)) rfl ?_) | (refine MC.part rfl rfl (fun h => absurd h (by first | decide | omega)) (fun _ => ?_)) | (refine MC.part rfl rfl (fun _ => ?_) (fun h => absurd (by first | decide | omega) h)) | (refine MC.cond rfl (fun h => absurd h (by first | decide | omega)) (fun _ => ?_)) | (refine MC.cond rfl (fun _ => ?_) (fun h => absurd (by first | decide | omega) h)))
  refine MC.loop (σ := Nat) (fun i => [(0, true, .slice q l.length c), (1, true, .slice q' m.length c'), (5, true, int ((i : Nat) : Int))])
    (fun i w' => i ≤ l.length ∧ l.take i = m.take i ∧ Sat F w') (fun i => l.length - i) 0 (by repeat (first | exact trivial | refine ⟨rfl, ?_⟩)) ⟨by omega, rfl, hs⟩ ?_
  rintro i w ⟨hi, htk, hs⟩
  repeat (first | (refine MC.run1 tab 1000 rfl rfl (by first | exact True.intro | (simp only [Conds, rng, Int.toNat_natCast, List.length_append, bytesV_length] <;> omega) | (simp [Conds, rng] <;> omega) | (simp only [Conds, rng, wrap_u8, wrap_u16, wrap_u32, wrap_u64] <;> omega)) ?_) | (refine MC.la true (la_load1 hs rfl (by rfl)) rfl ?_) | (refine MC.part rfl rfl (fun h => absurd h (by first | decide | omega)) (fun _ => ?_)) | (refine MC.part rfl rfl (fun _ => ?_) (fun h => absurd (by first | decide | omega) h)) | (refine MC.cond rfl (fun h => absurd h (by first | decide | omega)) (fun _ => ?_)) | (refine MC.cond rfl (fun _ => ?_) (fun h => absurd (by first | decide | omega) h)))
  refine MC.cond rfl (fun hlt => ?_) (fun hge => ?_)
  · have hlt : i < l.length := by omega
    have hlt' : i < m.length := by omega
    obtain ⟨b, o, rfl, hr⟩ := hl.at_ (by omega)
    obtain ⟨b', o', rfl, hr'⟩ := hm.at_ (by omega)
    repeat (first | (refine MC.run1 tab 1000 rfl rfl (by first | exact True.intro | (simp only [Conds, rng, Int.toNat_natCast, List.length_append, bytesV_length] <;> omega) | (simp [Conds, rng] <;> omega) | (simp only [Conds, rng, wrap_u8, wrap_u16, wrap_u32, wrap_u64] <;> omega)) ?_) | (refine MC.la true (la_load1 hs rfl (by rfl)) rfl ?_) | (refine MC.part rfl rfl (fun h => absurd h (by first | decide | omega)) (fun _ => ?_)) | (refine MC.part rfl rfl (fun _ => ?_) (fun h => absurd (by first | decide | omega) h)) | (refine MC.cond rfl (fun h => absurd h (by first | decide | omega)) (fun _ => ?_)) | (refine MC.cond rfl (fun _ => ?_) (fun h => absurd (by first | decide | omega) h)))
    refine MC.draw hs [0,1,2,3,4,5,6,7,8] (by rfl) ?_; intro w hs
    repeat (first | (refine MC.run1 tab 1000 rfl rfl (by first | exact True.intro | (simp only [Conds, rng, Int.toNat_natCast, List.length_append, bytesV_length] <;> omega) | (simp [Conds, rng] <;> omega) | (simp only [Conds, rng, wrap_u8, wrap_u16, wrap_u32, wrap_u64] <;> omega)) ?_) | (refine MC.laD true (la_load1 hs rfl (by rfl)) rfl ?_) | (refine MC.part rfl rfl (fun h => absurd h (by first | decide | omega)) (fun _ => ?_)) | (refine MC.part rfl rfl (fun _ => ?_) (fun h => absurd (by first | decide | omega) h)) | (refine MC.cond rfl (fun h => absurd h (by first | decide | omega)) (fun _ => ?_)) | (refine MC.cond rfl (fun _ => ?_) (fun h => absurd (by first | decide | omega) h)))
    refine MC.laD true (la_load1_rd hr hs (j := ((i : Nat) : Int).toNat * 1) rfl (intsV_get l i hlt)) rfl ?_
    repeat (first | (refine MC.run1 tab 1000 rfl rfl (by first | exact True.intro | (simp only [Conds, rng, Int.toNat_natCast, List.length_append, bytesV_length] <;> omega) | (simp [Conds, rng] <;> omega) | (simp only [Conds, rng, wrap_u8, wrap_u16, wrap_u32, wrap_u64] <;> omega)) ?_) | (refine MC.laD true (la_load1 hs rfl (by rfl)) rfl ?_) | (refine MC.part rfl rfl (fun h => absurd h (by first | decide | omega)) (fun _ => ?_)) | (refine MC.part rfl rfl (fun _ => ?_) (fun h => absurd (by first | decide | omega) h)) | (refine MC.cond rfl (fun h => absurd h (by first | decide | omega)) (fun _ => ?_)) | (refine MC.cond rfl (fun _ => ?_) (fun h => absurd (by first | decide | omega) h)))
    refine MC.laD true (la_load1_rd hr' hs (j := ((i : Nat) : Int).toNat * 1) rfl (intsV_get m i hlt')) rfl ?_
    repeat (first | (refine MC.run1 tab 1000 rfl rfl (by first | exact True.intro | (simp only [Conds, rng, Int.toNat_natCast, List.length_append, bytesV_length] <;> omega) | (simp [Conds, rng] <;> omega) | (simp only [Conds, rng, wrap_u8, wrap_u16, wrap_u32, wrap_u64] <;> omega)) ?_) | (refine MC.laD true (la_load1 hs rfl (by rfl)) rfl ?_) | (refine MC.part rfl rfl (fun h => absurd h (by first | decide | omega)) (fun _ => ?_)) | (refine MC.part rfl rfl (fun _ => ?_) (fun h => absurd (by first | decide | omega) h)) | (refine MC.cond rfl (fun h => absurd h (by first | decide | omega)) (fun _ => ?_)) | (refine MC.cond rfl (fun _ => ?_) (fun h => absurd (by first | decide | omega) h)))
    refine MC.cond rfl (fun h1 => ?_) (fun h1 => ?_)
    · repeat (first | (refine MC.run1 tab 1000 rfl rfl (by first | exact True.intro | (simp only [Conds, rng, Int.toNat_natCast, List.length_append, bytesV_length] <;> omega) | (simp [Conds, rng] <;> omega) | (simp only [Conds, rng, wrap_u8, wrap_u16, wrap_u32, wrap_u64] <;> omega)) ?_) | (refine MC.la true (la_load1 hs rfl (by rfl)) rfl ?_) | (refine MC.part rfl rfl (fun h => absurd h (by first | decide | omega)) (fun _ => ?_)) | (refine MC.part rfl rfl (fun _ => ?_) (fun h => absurd (by first | decide | omega) h)) | (refine MC.cond rfl (fun h => absurd h (by first | decide | omega)) (fun _ => ?_)) | (refine MC.cond rfl (fun _ => ?_) (fun h => absurd (by first | decide | omega) h)))
      refine MC.ret rfl ?_
      refine ⟨congrArg Value.bool (decide_eq_false fun e => h1 ?_).symm, hs⟩
      subst e; rfl
    · have h1 : l[i] = m[i] := by omega
      repeat (first | (refine MC.run1 tab 1000 rfl rfl (by first | exact True.intro | (simp only [Conds, rng, Int.toNat_natCast, List.length_append, bytesV_length] <;> omega) | (simp [Conds, rng] <;> omega) | (simp only [Conds, rng, wrap_u8, wrap_u16, wrap_u32, wrap_u64] <;> omega)) ?_) | (refine MC.la true (la_load1 hs rfl (by rfl)) rfl ?_) | (refine MC.part rfl rfl (fun h => absurd h (by first | decide | omega)) (fun _ => ?_)) | (refine MC.part rfl rfl (fun _ => ?_) (fun h => absurd (by first | decide | omega) h)) | (refine MC.cond rfl (fun h => absurd h (by first | decide | omega)) (fun _ => ?_)) | (refine MC.cond rfl (fun _ => ?_) (fun h => absurd (by first | decide | omega) h)))
      refine MC.again (i + 1) (by repeat (first | exact trivial | refine ⟨rfl, ?_⟩)) ⟨hlt, ?_, hs⟩ (by omega)
      rw [List.take_add_one, List.take_add_one, htk, List.getElem?_eq_getElem hlt, List.getElem?_eq_getElem hlt', h1]
  · obtain rfl : i = l.length := by omega
    have e : l = m := by rw [List.take_length] at htk; rw [htk, hlen, List.take_length]
    repeat (first | (refine MC.run1 tab 1000 rfl rfl (by first | exact True.intro | (simp only [Conds, rng, Int.toNat_natCast, List.length_append, bytesV_length] <;> omega) | (simp [Conds, rng] <;> omega) | (simp only [Conds, rng, wrap_u8, wrap_u16, wrap_u32, wrap_u64] <;> omega)) ?_) | (refine MC.la true (la_load1 hs rfl (by rfl)) rfl ?_) | (refine MC.part rfl rfl (fun h => absurd h (by first | decide | omega)) (fun _ => ?_)) | (refine MC.part rfl rfl (fun _ => ?_) (fun h => absurd (by first | decide | omega) h)) | (refine MC.cond rfl (fun h => absurd h (by first | decide | omega)) (fun _ => ?_)) | (refine MC.cond rfl (fun _ => ?_) (fun h => absurd (by first | decide | omega) h)))
    refine MC.ret rfl ?_
    exact ⟨congrArg Value.bool (decide_eq_true e).symm, hs⟩
def fitL (l : List Int) : List Int := (l.take 40).map (· % 2147483648)
theorem fitL_fit (l : List Int) : ∀ n ∈ fitL l, 0 ≤ n ∧ n ≤ 2147483647 := by
  intro n hn
  obtain ⟨m, _, rfl⟩ := List.mem_map.1 hn
  omega
theorem fitL_length (l : List Int) : (fitL l).length ≤ 40 := by simp [fitL]; omega
theorem fit_spec {F : List Assn} {w : World} {vl : Value} {l : List Int} (hs : Sat F w) (hl : RdS F 1 vl l.length (intsV l)) :
    Ret Try.prog 29 [vl] w fun v w' => Sat (sl v 3 1 (fitL l).length (intsV (fitL l)) :: F) w' := by
  obtain ⟨q, c, rfl, hc, _⟩ := hl.shape
  refine Ret.enter [(true, .slice q l.length c)] _ Try.func29 rfl Try.ntmps29 rfl ?_
  repeat (first | (refine MC.run1 tab 1000 rfl rfl (by first | exact True.intro | (simp only [Conds, rng, Int.toNat_natCast, List.length_append, bytesV_length] <;> omega) | (simp [Conds, rng] <;> omega) | (simp only [Conds, rng, wrap_u8, wrap_u16, wrap_u32, wrap_u64] <;> omega)) ?_) | (refine MC.la true (la_load1 hs rfl (by rfl)) rfl ?_) | (refine MC.part rfl rfl (fun h => absurd h (by first | decide | omega)) (fun _ => ?_)) | (refine MC.part rfl rfl (fun _ => ?_) (fun h => absurd (by first | decide | omega) h)) | (refine MC.cond rfl (fun h => absurd h (by first | decide | omega)) (fun _ => ?_)) | (refine MC.cond rfl (fun _ => ?_) (fun h => absurd (by first | decide | omega) h)))
  refine MC.loop (σ := Nat × Value) (fun s => [(0, true, .slice q l.length c), (3, true, s.2), (4, true, int ((s.1 : Nat) : Int))])
    (fun s w => s.1 ≤ l.length ∧ s.1 ≤ 40 ∧ Sat (sl s.2 3 1 s.1 (intsV ((l.take s.1).map (· % 2147483648))) :: F) w) (fun s => 40 - s.1) (0, .slice none 0 0) (by repeat (first | exact trivial | refine ⟨rfl, ?_⟩)) ⟨by omega, by omega, hs.sl_nil _ _⟩ ?_
  rintro ⟨i, v⟩ w ⟨hi, hi4, hs⟩
  have hi : i ≤ l.length := hi
  have hi4 : i ≤ 40 := hi4
  have hs : Sat (sl v 3 1 i (intsV ((l.take i).map (· % 2147483648))) :: F) w := hs
  obtain ⟨_, qv, cv, rfl, _⟩ := hs.sl_len
  dsimp only []
  have fin : i = l.length ∨ i = 40 → (l.take i).map (· % 2147483648) = fitL l ∧ i = (fitL l).length := fun h => by
    have e : l.take i = l.take 40 := by
      rcases h with rfl | rfl
      · rw [List.take_of_length_le (Nat.le_refl _), List.take_of_length_le (by omega)]
      · rfl
    refine ⟨by rw [e]; rfl, ?_⟩
    have : (fitL l).length = (l.take i).length := by rw [e]; simp [fitL]
    rw [this, List.length_take]; omega
  repeat (first | (refine MC.run1 tab 1000 rfl rfl (by first | exact True.intro | (simp only [Conds, rng, Int.toNat_natCast, List.length_append, bytesV_length] <;> omega) | (simp [Conds, rng] <;> omega) | (simp only [Conds, rng, wrap_u8, wrap_u16, wrap_u32, wrap_u64] <;> omega)) ?_) | (refine MC.la true (la_load1 hs rfl (by rfl)) rfl ?_) | (refine MC.part rfl rfl (fun h => absurd h (by first | decide | omega)) (fun _ => ?_)) | (refine MC.part rfl rfl (fun _ => ?_) (fun h => absurd (by first | decide | omega) h)) | (refine MC.cond rfl (fun h => absurd h (by first | decide | omega)) (fun _ => ?_)) | (refine MC.cond rfl (fun _ => ?_) (fun h => absurd (by first | decide | omega) h)))
  refine MC.part rfl rfl (fun h1 => ?_) (fun h1 => ?_)
  · have hlt : i < l.length := by omega
    obtain ⟨b, o, rfl, hr⟩ := hl.at_ (by omega)
    repeat (first | (refine MC.run1 tab 1000 rfl rfl (by first | exact True.intro | (simp only [Conds, rng, Int.toNat_natCast, List.length_append, bytesV_length] <;> omega) | (simp [Conds, rng] <;> omega) | (simp only [Conds, rng, wrap_u8, wrap_u16, wrap_u32, wrap_u64] <;> omega)) ?_) | (refine MC.la true (la_load1 hs rfl (by rfl)) rfl ?_) | (refine MC.part rfl rfl (fun h => absurd h (by first | decide | omega)) (fun _ => ?_)) | (refine MC.part rfl rfl (fun _ => ?_) (fun h => absurd (by first | decide | omega) h)) | (refine MC.cond rfl (fun h => absurd h (by first | decide | omega)) (fun _ => ?_)) | (refine MC.cond rfl (fun _ => ?_) (fun h => absurd (by first | decide | omega) h)))
    refine MC.cond rfl (fun h2 => ?_) (fun h2 => ?_)
    · repeat (first | (refine MC.run1 tab 1000 rfl rfl (by first | exact True.intro | (simp only [Conds, rng, Int.toNat_natCast, List.length_append, bytesV_length] <;> omega) | (simp [Conds, rng] <;> omega) | (simp only [Conds, rng, wrap_u8, wrap_u16, wrap_u32, wrap_u64] <;> omega)) ?_) | (refine MC.la true (la_load1 hs rfl (by rfl)) rfl ?_) | (refine MC.part rfl rfl (fun h => absurd h (by first | decide | omega)) (fun _ => ?_)) | (refine MC.part rfl rfl (fun _ => ?_) (fun h => absurd (by first | decide | omega) h)) | (refine MC.cond rfl (fun h => absurd h (by first | decide | omega)) (fun _ => ?_)) | (refine MC.cond rfl (fun _ => ?_) (fun h => absurd (by first | decide | omega) h)))
      refine MC.la true (la_load1_rd hr hs (j := ((i : Nat) : Int).toNat * 1) rfl (intsV_get l i hlt)) rfl ?_
      repeat (first | (refine MC.run1 tab 1000 rfl rfl (by first | exact True.intro | (simp only [Conds, rng, Int.toNat_natCast, List.length_append, bytesV_length] <;> omega) | (simp [Conds, rng] <;> omega) | (simp only [Conds, rng, wrap_u8, wrap_u16, wrap_u32, wrap_u64] <;> omega)) ?_) | (refine MC.la true (la_load1 hs rfl (by rfl)) rfl ?_) | (refine MC.part rfl rfl (fun h => absurd h (by first | decide | omega)) (fun _ => ?_)) | (refine MC.part rfl rfl (fun _ => ?_) (fun h => absurd (by first | decide | omega) h)) | (refine MC.cond rfl (fun h => absurd h (by first | decide | omega)) (fun _ => ?_)) | (refine MC.cond rfl (fun _ => ?_) (fun h => absurd (by first | decide | omega) h)))
      refine MC.does true (does_buildL hs rfl rfl rfl (by first | (intro u hu; simp only [List.mem_cons, List.not_mem_nil, or_false] at hu; rcases hu with rfl | rfl | rfl | rfl | rfl | rfl | rfl | rfl <;> rfl) | (intro u hu; simp only [List.mem_cons, List.not_mem_nil, or_false] at hu; rcases hu with rfl | rfl | rfl | rfl <;> rfl) | (intro u hu; simp only [List.mem_cons, List.not_mem_nil, or_false] at hu; rcases hu with rfl | rfl <;> rfl) | (intro u hu; simp only [List.mem_cons, List.not_mem_nil, or_false] at hu; subst hu; rfl)) rfl) rfl ?_; rintro _ w ⟨b4, rfl, hs⟩
      refine MC.does true (does_append hs rfl rfl (src_at rfl (intsV_one [l[i] % ((2147483647 + 1 : Nat) : Int)])) (by omega) (by omega)) rfl ?_
      intro va w hs
      repeat (first | (refine MC.run1 tab 1000 rfl rfl (by first | exact True.intro | (simp only [Conds, rng, Int.toNat_natCast, List.length_append, bytesV_length] <;> omega) | (simp [Conds, rng] <;> omega) | (simp only [Conds, rng, wrap_u8, wrap_u16, wrap_u32, wrap_u64] <;> omega)) ?_) | (refine MC.la true (la_load1 hs rfl (by rfl)) rfl ?_) | (refine MC.part rfl rfl (fun h => absurd h (by first | decide | omega)) (fun _ => ?_)) | (refine MC.part rfl rfl (fun _ => ?_) (fun h => absurd (by first | decide | omega) h)) | (refine MC.cond rfl (fun h => absurd h (by first | decide | omega)) (fun _ => ?_)) | (refine MC.cond rfl (fun _ => ?_) (fun h => absurd (by first | decide | omega) h)))
      refine MC.again (i + 1, va) (by repeat (first | exact trivial | refine ⟨rfl, ?_⟩)) ⟨hlt, by show i + 1 ≤ 40; omega, ?_⟩ (by show 40 - (i + 1) < 40 - i; omega)
      show Sat (sl va _ 1 (i + 1) (intsV ((l.take (i + 1)).map (· % 2147483648))) :: F) w
      rw [List.take_add_one, List.getElem?_eq_getElem hlt, List.map_append, intsV_append]
      exact hs.tail
    · obtain ⟨e1, e2⟩ := fin (.inr (by omega))
      rw [e1] at hs
      repeat (first | (refine MC.run1 tab 1000 rfl rfl (by first | exact True.intro | (simp only [Conds, rng, Int.toNat_natCast, List.length_append, bytesV_length] <;> omega) | (simp [Conds, rng] <;> omega) | (simp only [Conds, rng, wrap_u8, wrap_u16, wrap_u32, wrap_u64] <;> omega)) ?_) | (refine MC.la true (la_load1 hs rfl (by rfl)) rfl ?_) | (refine MC.part rfl rfl (fun h => absurd h (by first | decide | omega)) (fun _ => ?_)) | (refine MC.part rfl rfl (fun _ => ?_) (fun h => absurd (by first | decide | omega) h)) | (refine MC.cond rfl (fun h => absurd h (by first | decide | omega)) (fun _ => ?_)) | (refine MC.cond rfl (fun _ => ?_) (fun h => absurd (by first | decide | omega) h)))
      refine MC.ret rfl ?_
      rw [← e2]; exact hs
  · obtain ⟨e1, e2⟩ := fin (.inl (by omega))
    rw [e1] at hs
    repeat (first | (refine MC.run1 tab 1000 rfl rfl (by first | exact True.intro | (simp only [Conds, rng, Int.toNat_natCast, List.length_append, bytesV_length] <;> omega) | (simp [Conds, rng] <;> omega) | (simp only [Conds, rng, wrap_u8, wrap_u16, wrap_u32, wrap_u64] <;> omega)) ?_) | (refine MC.la true (la_load1 hs rfl (by rfl)) rfl ?_) | (refine MC.part rfl rfl (fun h => absurd h (by first | decide | omega)) (fun _ => ?_)) | (refine MC.part rfl rfl (fun _ => ?_) (fun h => absurd (by first | decide | omega) h)) | (refine MC.cond rfl (fun h => absurd h (by first | decide | omega)) (fun _ => ?_)) | (refine MC.cond rfl (fun _ => ?_) (fun h => absurd (by first | decide | omega) h)))
    refine MC.ret rfl ?_
    rw [← e2]; exact hs
/-! #### What is written is read -/
theorem byteOf_toNat (n : Int) : ((byteOf n).toNat : Int) = n % 256 := by
  have h0 : 0 ≤ n % 256 := Int.emod_nonneg _ (by decide)
  have h1 : n % 256 < 256 := Int.emod_lt_of_pos _ (by decide)
  rw [byteOf, UInt8.toNat_ofNat']; omega
theorem get4_le4 (pre rest : List UInt8) (n : Int) (k : Nat) (hk : pre.length = k) (h0 : 0 ≤ n) (h1 : n ≤ 4294967295) : get4 (pre ++ (le4 n ++ rest)) k = n := by
  subst hk
  have e : ∀ j, j < 4 → (pre ++ (le4 n ++ rest)).getD (pre.length + j) 0 = (le4 n).getD j 0 := fun j hj => by
    simp only [List.getD_eq_getElem?_getD]
    rw [List.getElem?_append_right (by omega), Nat.add_sub_cancel_left, List.getElem?_append_left (by simp [le4]; omega)]
  have e0 := e 0 (by decide)
  rw [Nat.add_zero] at e0
  simp only [get4, e0, e 1 (by decide), e 2 (by decide), e 3 (by decide)]
  have b0 := byteOf_toNat n
  have b1 := byteOf_toNat (n / 256)
  have b2 := byteOf_toNat (n / 65536)
  have b3 := byteOf_toNat (n / 16777216)
  simp only [le4, List.getD_cons_zero, List.getD_cons_succ, b0, b1, b2, b3]
  omega
theorem sectorB_eq (which epoch : Int) (f : List Int) : ∃ P, sectorB which epoch f = le4 epoch ++ ([byteOf which, byteOf f.length] ++ (f.flatMap le4 ++ P)) := by
  refine ⟨many (248 - (headB which epoch f).length) 0 ++ [(sumOf (bodyB which epoch f) : Int), epoch].flatMap le4, ?_⟩
  generalize h : [(sumOf (bodyB which epoch f) : Int), epoch].flatMap le4 = Z
  unfold sectorB
  rw [h]
  simp only [bodyB, headB, List.append_assoc]
theorem good_sector {which epoch : Int} {f : List Int} (hf : f.length ≤ 40) (hfit : ∀ n ∈ f, 0 ≤ n ∧ n ≤ 2147483647) (h1 : 1 ≤ epoch) (h2 : epoch ≤ 2147483647) :
    get4 (sectorB which epoch f) 0 = epoch ∧ nOf (sectorB which epoch f) = f.length ∧ fieldsOf (sectorB which epoch f) f.length = f := by
  obtain ⟨P, hP⟩ := sectorB_eq which epoch f
  refine ⟨?_, ?_, ?_⟩
  · rw [hP]
    have := get4_le4 [] ([byteOf which, byteOf f.length] ++ (f.flatMap le4 ++ P)) epoch 0 rfl (by omega) (by omega)
    rwa [List.nil_append] at this
  · rw [hP]
    have hb := byteOf_toNat (f.length : Int)
    show (byteOf (f.length : Int)).toNat = f.length
    omega
  · apply List.ext_getElem
    · simp [fieldsOf_length]
    intro i h3 h4
    have hi : i < f.length := h4
    simp only [fieldsOf, List.getElem_map, List.getElem_range]
    have e : f.flatMap le4 = (f.take i).flatMap le4 ++ (le4 f[i] ++ (f.drop (i + 1)).flatMap le4) := by
      conv => lhs; rw [← List.take_append_drop i f, List.drop_eq_getElem_cons hi]
      rw [List.flatMap_append, List.flatMap_cons]
    have e2 : sectorB which epoch f = (le4 epoch ++ ([byteOf which, byteOf f.length] ++ (f.take i).flatMap le4)) ++ (le4 f[i] ++ ((f.drop (i + 1)).flatMap le4 ++ P)) := by
      rw [hP, e]; simp only [List.append_assoc]
    rw [e2]
    have hm := hfit _ (List.getElem_mem hi)
    refine get4_le4 _ _ _ _ ?_ hm.1 (by omega)
    simp only [List.length_append, le4_length, le4_all, List.length_cons, List.length_nil, List.length_take]
    omega
theorem read_sector {which epoch : Int} {f : List Int} (hf : f.length ≤ 40) (hfit : ∀ n ∈ f, 0 ≤ n ∧ n ≤ 2147483647) (h1 : 1 ≤ epoch) (h2 : epoch ≤ 2147483647) : readS which (sectorB which epoch f) = ⟨true, epoch, f⟩ := by
  obtain ⟨e1, e2, e3⟩ := good_sector (which := which) hf hfit h1 h2
  have hg : Good which (sectorB which epoch f) := ⟨by omega, by omega, by omega, by rw [e2, e3]; exact hfit, by rw [e2, e3, e1]⟩
  rw [readS, if_pos hg, e2, e3, e1]
theorem get4_zero (k n : Nat) : get4 (many n 0) k = 0 := by
  have e : ∀ j, (many n 0).getD j 0 = 0 := fun j => by
    simp only [many, List.getD_eq_getElem?_getD, List.getElem?_replicate]
    split <;> rfl
  simp only [get4, e]
  decide
theorem read_zero (which : Int) (n : Nat) : readS which (many n 0) = Sv.no := by
  have : ¬ Good which (many n 0) := fun h => by have := h.1; rw [get4_zero] at this; omega
  rw [readS, if_neg this]
end Go.Proofs.Ytoljbocejclaeaa
