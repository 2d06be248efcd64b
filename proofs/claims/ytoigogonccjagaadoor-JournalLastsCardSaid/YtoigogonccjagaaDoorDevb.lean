/- The device: making one, writing, syncing, what is open, a loss of power. -/
import Derived.Test.YtoigogonccjagaaDoorDev
set_option linter.unusedVariables false
set_option linter.unusedSimpArgs false
namespace Go.Proofs.YtoigogonccjagaaDoor
open Go Go.Sl
attribute [local irreducible] LooksAt

abbrev byte (c : UInt8) : Value := .int .u8 (c.toNat : Int)
/-- A sector of one byte, but for those that it begins with. -/
def filled (c : UInt8) (l : List UInt8) : List UInt8 := l.take 256 ++ many (256 - l.length) c
theorem filled_length (c : UInt8) (l : List UInt8) : (filled c l).length = 256 := by simp [filled]; omega
def Dev.new (n : Nat) : Dev := ⟨List.replicate n (many 256 0), [], 0, 0⟩
theorem Dev.new_ok {n : Nat} (h1 : 1 ≤ n) (h2 : n ≤ 8192) : (Dev.new n).ok :=
  { pos := by simp only [Dev.new, List.length_replicate]; omega
    few := by simp only [Dev.new, List.length_replicate]; omega
    sec := fun s hs => by
      have := (List.mem_replicate.1 hs).2
      rw [this]; simp
    op := fun x hx => by cases hx
    fuse0 := by simp [Dev.new]
    fuse1 := by simp [Dev.new] }
theorem new_spec {F : List Assn} {w : World} (hs : Sat F w) (n : Nat) (h1 : 1 ≤ n) (h2 : n ≤ 8192) :
    Ret Tryd.prog 39 [int n] w fun v w' => ∃ p, v = .tuple #[ptr p, int 0] ∧ Sat (dev p (Dev.new n) :: F) w' := by
  refine Ret.enter [(true, int n)] _ Tryd.func39 rfl Tryd.ntmps39 rfl ?_
  repeat (first | (refine MC.run1 tab 1000 rfl rfl (by first | exact True.intro | (simp only [Conds, rng, Int.toNat_natCast, List.length_append, bytesV_length] <;> omega) | (simp [Conds, rng] <;> omega) | (simp only [Conds, rng, wrap_u8, wrap_u16, wrap_u32, wrap_u64] <;> omega)) ?_) | (refine MC.la true (la_load1 hs rfl (by rfl)) rfl ?_))
  refine MC.part rfl rfl (fun h => absurd h (by omega)) (fun _ => ?_)
  repeat (first | (refine MC.run1 tab 1000 rfl rfl (by first | exact True.intro | (simp only [Conds, rng, Int.toNat_natCast, List.length_append, bytesV_length] <;> omega) | (simp [Conds, rng] <;> omega) | (simp only [Conds, rng, wrap_u8, wrap_u16, wrap_u32, wrap_u64] <;> omega)) ?_) | (refine MC.la true (la_load1 hs rfl (by rfl)) rfl ?_))
  refine MC.cond rfl (fun h => absurd h (by omega)) (fun _ => ?_)
  repeat (first | (refine MC.run1 tab 1000 rfl rfl (by first | exact True.intro | (simp only [Conds, rng, Int.toNat_natCast, List.length_append, bytesV_length] <;> omega) | (simp [Conds, rng] <;> omega) | (simp only [Conds, rng, wrap_u8, wrap_u16, wrap_u32, wrap_u64] <;> omega)) ?_) | (refine MC.la true (la_load1 hs rfl (by rfl)) rfl ?_))
  refine MC.does true (does_makeSlice hs rfl rfl (Nat.le_refl _) (by omega) (by omega)) rfl ?_
  rintro _ w ⟨b, rfl, hs⟩
  refine MC.pure (f := true) (po_build (ls := [(0, [.slice (some ⟨b, 0, none⟩) n n])]) rfl rfl ⟨⟨_, rfl, by simp⟩, trivial⟩ rfl) rfl ?_
  refine MC.does true (does_box hs rfl rfl) rfl ?_
  rintro _ w ⟨p, rfl, hs⟩
  repeat (first | (refine MC.run1 tab 1000 rfl rfl (by first | exact True.intro | (simp only [Conds, rng, Int.toNat_natCast, List.length_append, bytesV_length] <;> omega) | (simp [Conds, rng] <;> omega) | (simp only [Conds, rng, wrap_u8, wrap_u16, wrap_u32, wrap_u64] <;> omega)) ?_) | (refine MC.la true (la_load1 hs rfl (by rfl)) rfl ?_))
  refine MC.ret rfl ?_
  refine ⟨p, rfl, dev_shut (vs := .slice (some ⟨b, 0, none⟩) n n) (vo := .slice none 0 0) ?_⟩
  have e : rep n (reps 256 (.int .u8 0)) = secV (Dev.new n).S := by rw [← bytesV_zeros, rep_flatMap]; rfl
  rw [e] at hs
  have hl : (secV (Dev.new n).S).length = n * 256 := by rw [← e, rep_length]; simp
  have hS : (Dev.new n).S.length = n := by simp [Dev.new]
  rw [hS]
  have h3 := hs.swap
  rw [← List.append_nil (secV (Dev.new n).S)] at h3
  have h4 := h3.sl_mk (n := n) (c := n) (size := 256) (Nat.le_refl _) hl (by simp [hl])
  exact (Sat.sl_nil h4 83 257).pickF 3 [2, 1, 0] rfl rfl
end Go.Proofs.YtoigogonccjagaaDoor
