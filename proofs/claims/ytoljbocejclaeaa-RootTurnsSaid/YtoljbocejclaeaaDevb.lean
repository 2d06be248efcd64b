/- The device: making one, writing, syncing, what is open, a loss of power. -/
import Derived.Test.YtoljbocejclaeaaDev
set_option linter.unusedVariables false
set_option linter.unusedSimpArgs false
namespace Go.Proofs.Ytoljbocejclaeaa
open Go Go.Sl
attribute [local irreducible] LooksAt

abbrev byte (c : UInt8) : Value := .int .u8 (c.toNat : Int)
/-- A sector of one byte, but for those that it begins with. -/
def filled (c : UInt8) (l : List UInt8) : List UInt8 := l.take 256 ++ many (256 - l.length) c
theorem filled_length (c : UInt8) (l : List UInt8) : (filled c l).length = 256 := by simp [filled]; omega
theorem filled_spec {F : List Assn} {w : World} {c : UInt8} {vf : Value} {nf : Nat} {l : List UInt8} (hs : Sat F w) (hl : RdS F 1 vf nf (bytesV l)) :
    Ret Try.prog 19 [byte c, vf] w fun v w' => ∃ b, v = .slice (some ⟨b, 0, none⟩) 256 256 ∧ Sat (blk b (bytesV (filled c l)) 5 :: F) w' := by
  refine Ret.enter [(true, byte c), (true, vf)] _ Try.func19 rfl Try.ntmps19 rfl ?_
  repeat (first | (refine MC.run1 tab 1000 rfl rfl (by first | exact True.intro | (simp only [Conds, rng, Int.toNat_natCast, List.length_append, bytesV_length] <;> omega) | (simp [Conds, rng] <;> omega)) ?_) | (refine MC.la true (la_load1 hs rfl (by rfl)) rfl ?_))
  refine MC.does true (does_makeSliceI 256 256 hs rfl rfl (by omega) (by omega) (Nat.le_refl _) (by omega) (by omega)) rfl ?_
  rintro _ w ⟨b, rfl, hs⟩
  repeat (first | (refine MC.run1 tab 1000 rfl rfl (by first | exact True.intro | (simp only [Conds, rng, Int.toNat_natCast, List.length_append, bytesV_length] <;> omega) | (simp [Conds, rng] <;> omega)) ?_) | (refine MC.la true (la_load1 hs rfl (by rfl)) rfl ?_))
  refine MC.loop (σ := Nat) (fun k => [(0, true, byte c), (1, true, vf), (5, true, .slice (some ⟨b, 0, none⟩) 256 256), (9, true, int ((256 : Nat) : Int)), (10, true, int k)])
    (fun k w => k ≤ 256 ∧ Sat (blk b (bytesV (many k c ++ many (256 - k) 0)) 5 :: F) w) (fun k => 256 - k) 0 (by repeat (first | exact trivial | refine ⟨rfl, ?_⟩)) ⟨by omega, ?_⟩ ?_
  · rw [rep_one', ← bytesV_zeros] at hs
    exact hs
  · rintro k w ⟨hk, hs⟩
    repeat (first | (refine MC.run1 tab 1000 rfl rfl (by first | exact True.intro | (simp only [Conds, rng, Int.toNat_natCast, List.length_append, bytesV_length] <;> omega) | (simp [Conds, rng] <;> omega)) ?_) | (refine MC.la true (la_load1 hs rfl (by rfl)) rfl ?_))
    refine MC.cond rfl (fun hlt => ?_) (fun hge => ?_)
    · repeat (first | (refine MC.run1 tab 1000 rfl rfl (by first | exact True.intro | (simp only [Conds, rng, Int.toNat_natCast, List.length_append, bytesV_length] <;> omega) | (simp [Conds, rng] <;> omega)) ?_) | (refine MC.la true (la_load1 hs rfl (by rfl)) rfl ?_))
      refine MC.does true (does_store1 hs rfl rfl rfl (by simp; omega)) rfl ?_
      intro _ w hs
      repeat (first | (refine MC.run1 tab 1000 rfl rfl (by first | exact True.intro | (simp only [Conds, rng, Int.toNat_natCast, List.length_append, bytesV_length] <;> omega) | (simp [Conds, rng] <;> omega)) ?_) | (refine MC.la true (la_load1 hs rfl (by rfl)) rfl ?_))
      refine MC.again (k + 1) (by repeat (first | exact trivial | refine ⟨rfl, ?_⟩)) ⟨by omega, ?_⟩ (by omega)
      have e : (bytesV (many k c ++ many (256 - k) 0)).set (0 + (k : Int).toNat * 1) (byte c) = bytesV (many (k + 1) c ++ many (256 - (k + 1)) 0) := by
        have h1 : 256 - k = (256 - (k + 1)) + 1 := by omega
        rw [h1, many_succ, many_succ', bytesV_append, bytesV_append, bytesV_append]
        simp [bytesV, List.set_append]
      rw [e] at hs
      exact hs
    · have hk' : k = 256 := by omega
      subst hk'
      repeat (first | (refine MC.run1 tab 1000 rfl rfl (by first | exact True.intro | (simp only [Conds, rng, Int.toNat_natCast, List.length_append, bytesV_length] <;> omega) | (simp [Conds, rng] <;> omega)) ?_) | (refine MC.la true (la_load1 hs rfl (by rfl)) rfl ?_))
      refine MC.does true (does_copy hs rfl rfl (hl.src2 (bytesV_one _)) (by simp; omega)) rfl ?_
      rintro _ w ⟨rfl, hs⟩
      repeat (first | (refine MC.run1 tab 1000 rfl rfl (by first | exact True.intro | (simp only [Conds, rng, Int.toNat_natCast, List.length_append, bytesV_length] <;> omega) | (simp [Conds, rng] <;> omega)) ?_) | (refine MC.la true (la_load1 hs rfl (by rfl)) rfl ?_))
      refine MC.ret rfl ?_
      refine ⟨b, rfl, ?_⟩
      have hn : nf = l.length := by obtain ⟨_, _, _, _, h, _⟩ := hl; simpa using h.symm
      have e : splice (bytesV (many 256 c ++ many (256 - 256) 0)) 0 ((bytesV l).take (min nf 256 * 1)) = bytesV (filled c l) := by
        have e0 : many 256 c ++ many (256 - 256) 0 = many 256 c := List.append_nil _
        rw [e0, splice_eq _ _ _ (by simp; omega), Nat.mul_one]
        simp only [bytesV_take, bytesV_drop, many_drop, bytesV_length, List.length_take, ← bytesV_append, List.take_zero, List.nil_append]
        congr 1
        simp only [filled, hn]
        rcases Nat.le_total l.length 256 with h | h
        · rw [Nat.min_eq_left h, List.take_of_length_le (Nat.le_refl _), List.take_of_length_le h] <;> simp
        · rw [Nat.min_eq_right h, Nat.min_eq_left h, Nat.sub_eq_zero_of_le h] <;> simp
      rw [e] at hs
      exact hs

def Dev.new (n : Nat) : Dev := ⟨List.replicate n (many 256 0), [], 0, 0⟩
theorem Dev.new_ok {n : Nat} (h1 : 1 ≤ n) (h2 : n ≤ 8192) : (Dev.new n).ok :=
  { pos := by simp only [Dev.new, List.length_replicate]; omega
    few := by simp only [Dev.new, List.length_replicate]; omega
    sec := fun s hs => by
      have := (List.mem_replicate.1 hs).2
      rw [this]; simp
    op := fun x hx => by cases hx
    fuse0 := by simp [Dev.new]
    fuse1 := by simp [Dev.new] }
theorem new_spec {F : List Assn} {w : World} (hs : Sat F w) (n : Nat) (h1 : 1 ≤ n) (h2 : n ≤ 8192) :
    Ret Try.prog 12 [int n] w fun v w' => ∃ p, v = .tuple #[ptr p, int 0] ∧ Sat (dev p (Dev.new n) :: F) w' := by
  refine Ret.enter [(true, int n)] _ Try.func12 rfl Try.ntmps12 rfl ?_
  repeat (first | (refine MC.run1 tab 1000 rfl rfl (by first | exact True.intro | (simp only [Conds, rng, Int.toNat_natCast, List.length_append, bytesV_length] <;> omega) | (simp [Conds, rng] <;> omega)) ?_) | (refine MC.la true (la_load1 hs rfl (by rfl)) rfl ?_))
  refine MC.part rfl rfl (fun h => absurd h (by omega)) (fun _ => ?_)
  repeat (first | (refine MC.run1 tab 1000 rfl rfl (by first | exact True.intro | (simp only [Conds, rng, Int.toNat_natCast, List.length_append, bytesV_length] <;> omega) | (simp [Conds, rng] <;> omega)) ?_) | (refine MC.la true (la_load1 hs rfl (by rfl)) rfl ?_))
  refine MC.cond rfl (fun h => absurd h (by omega)) (fun _ => ?_)
  repeat (first | (refine MC.run1 tab 1000 rfl rfl (by first | exact True.intro | (simp only [Conds, rng, Int.toNat_natCast, List.length_append, bytesV_length] <;> omega) | (simp [Conds, rng] <;> omega)) ?_) | (refine MC.la true (la_load1 hs rfl (by rfl)) rfl ?_))
  refine MC.does true (does_makeSlice hs rfl rfl (Nat.le_refl _) (by omega) (by omega)) rfl ?_
  rintro _ w ⟨b, rfl, hs⟩
  refine MC.pure (f := true) (po_build (ls := [(0, [.slice (some ⟨b, 0, none⟩) n n])]) rfl rfl ⟨⟨_, rfl, by simp⟩, trivial⟩ rfl) rfl ?_
  refine MC.does true (does_box hs rfl rfl) rfl ?_
  rintro _ w ⟨p, rfl, hs⟩
  repeat (first | (refine MC.run1 tab 1000 rfl rfl (by first | exact True.intro | (simp only [Conds, rng, Int.toNat_natCast, List.length_append, bytesV_length] <;> omega) | (simp [Conds, rng] <;> omega)) ?_) | (refine MC.la true (la_load1 hs rfl (by rfl)) rfl ?_))
  refine MC.ret rfl ?_
  refine ⟨p, rfl, dev_shut (vs := .slice (some ⟨b, 0, none⟩) n n) (vo := .slice none 0 0) ?_⟩
  have e : rep n (reps 256 (.int .u8 0)) = secV (Dev.new n).S := by rw [← bytesV_zeros, rep_flatMap]; rfl
  rw [e] at hs
  have hl : (secV (Dev.new n).S).length = n * 256 := by rw [← e, rep_length]; simp
  have hS : (Dev.new n).S.length = n := by simp [Dev.new]
  rw [hS]
  have h3 := hs.swap
  rw [← List.append_nil (secV (Dev.new n).S)] at h3
  have h4 := h3.sl_mk (n := n) (c := n) (size := 256) (Nat.le_refl _) hl (by simp [hl])
  exact (Sat.sl_nil h4 80 257).pickF 3 [2, 1, 0] rfl rfl
end Go.Proofs.Ytoljbocejclaeaa
