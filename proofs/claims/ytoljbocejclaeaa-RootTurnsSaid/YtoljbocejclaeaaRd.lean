/- Roots: which of the two is the latest; opening one. -/
import Derived.Test.YtoljbocejclaeaaRc
set_option linter.unusedVariables false
set_option linter.unusedSimpArgs false
namespace Go.Proofs.Ytoljbocejclaeaa
open Go Go.Sl
attribute [local irreducible] LooksAt

/-- A root that lies at block r, over the device at block p. -/
def rt (r p : Nat) (at' : Int) (A B : Sv) : Assn := Sl.ex fun va : Value => Sl.ex fun vb : Value => star [blk r [ptr p, int at', bool A.stands, int A.epoch, va, bool B.stands, int B.epoch, vb] 62, sl va 3 1 A.fields.length (intsV A.fields), sl vb 3 1 B.fields.length (intsV B.fields)]
section
variable {F : List Assn} {r p : Nat} {at' : Int} {A B : Sv} {w : World}
theorem rt_open (hs : Sat (rt r p at' A B :: F) w) : ∃ va vb, Sat (blk r [ptr p, int at', bool A.stands, int A.epoch, va, bool B.stands, int B.epoch, vb] 62 :: sl va 3 1 A.fields.length (intsV A.fields) :: sl vb 3 1 B.fields.length (intsV B.fields) :: F) w := by
  obtain ⟨va, hs⟩ := Sat.ex_iff.1 hs
  obtain ⟨vb, hs⟩ := Sat.ex_iff.1 hs
  exact ⟨va, vb, hs.unstar⟩
theorem rt_shut {va vb : Value} (hs : Sat (blk r [ptr p, int at', bool A.stands, int A.epoch, va, bool B.stands, int B.epoch, vb] 62 :: sl va 3 1 A.fields.length (intsV A.fields) :: sl vb 3 1 B.fields.length (intsV B.fields) :: F) w) : Sat (rt r p at' A B :: F) w :=
  Sat.ex_iff.2 ⟨va, Sat.ex_iff.2 ⟨vb, Sat.restar (l := [_, _, _]) hs⟩⟩
end
def whichOf (A B : Sv) : Int := if B.stands = true ∧ (A.stands = false ∨ A.epoch < B.epoch) then 1 else if A.stands = true then 0 else -1
theorem which_spec {F : List Assn} {r p : Nat} {at' : Int} {A B : Sv} {w : World} (hs : Sat (rt r p at' A B :: F) w) :
    Ret Try.prog 34 [ptr r] w fun v w' => v = int (whichOf A B) ∧ Sat (rt r p at' A B :: F) w' := by
  obtain ⟨va, vb, hs⟩ := rt_open hs
  obtain ⟨sa, ea, fa⟩ := A
  obtain ⟨sb, eb, fb⟩ := B
  dsimp only [] at hs
  refine Ret.enter [(true, ptr r)] _ Try.func34 rfl Try.ntmps34 rfl ?_
  repeat (first | (refine MC.run1 tab 1000 rfl rfl (by first | exact True.intro | (simp only [Conds, rng, Int.toNat_natCast, List.length_append, bytesV_length] <;> omega) | (simp [Conds, rng] <;> omega) | (simp only [Conds, rng, wrap_u8, wrap_u16, wrap_u32, wrap_u64] <;> omega)) ?_) | (refine MC.la true (la_load1 hs rfl (by rfl)) rfl ?_) | (refine MC.part rfl rfl (fun h => absurd h (by first | decide | omega)) (fun _ => ?_)) | (refine MC.part rfl rfl (fun _ => ?_) (fun h => absurd (by first | decide | omega) h)) | (refine MC.cond rfl (fun h => absurd h (by first | decide | omega)) (fun _ => ?_)) | (refine MC.cond rfl (fun _ => ?_) (fun h => absurd (by first | decide | omega) h)))
  refine MC.la true (la_loadV hs rfl (vs := [bool sa, int ea, va, bool sb, int eb, vb]) rfl rfl rfl) rfl ?_
  repeat (first | (refine MC.run1 tab 1000 rfl rfl (by first | exact True.intro | (simp only [Conds, rng, Int.toNat_natCast, List.length_append, bytesV_length] <;> omega) | (simp [Conds, rng] <;> omega) | (simp only [Conds, rng, wrap_u8, wrap_u16, wrap_u32, wrap_u64] <;> omega)) ?_) | (refine MC.la true (la_load1 hs rfl (by rfl)) rfl ?_) | (refine MC.part rfl rfl (fun h => absurd h (by first | decide | omega)) (fun _ => ?_)) | (refine MC.part rfl rfl (fun _ => ?_) (fun h => absurd (by first | decide | omega) h)) | (refine MC.cond rfl (fun h => absurd h (by first | decide | omega)) (fun _ => ?_)) | (refine MC.cond rfl (fun _ => ?_) (fun h => absurd (by first | decide | omega) h)))
  refine MC.loop (σ := Nat) (fun i => [(0, true, ptr r), (3, true, int (if i = 0 then -1 else if i = 1 then (if sa then 0 else -1) else whichOf ⟨sa, ea, fa⟩ ⟨sb, eb, fb⟩)), (9, true, .agg #[bool sa, int ea, va, bool sb, int eb, vb]), (10, true, int ((i : Nat) : Int))])
    (fun i w => i ≤ 2 ∧ Sat (blk r [ptr p, int at', bool sa, int ea, va, bool sb, int eb, vb] 62 :: sl va 3 1 fa.length (intsV fa) :: sl vb 3 1 fb.length (intsV fb) :: F) w) (fun i => 2 - i) 0 (by repeat (first | exact trivial | refine ⟨rfl, ?_⟩)) ⟨by decide, hs⟩ ?_
  rintro i w ⟨hi, hs⟩
  obtain rfl | rfl | rfl : i = 0 ∨ i = 1 ∨ i = 2 := by omega
  · simp only [if_true]
    repeat (first | (refine MC.run1 tab 1000 rfl rfl (by first | exact True.intro | (simp only [Conds, rng, Int.toNat_natCast, List.length_append, bytesV_length] <;> omega) | (simp [Conds, rng] <;> omega) | (simp only [Conds, rng, wrap_u8, wrap_u16, wrap_u32, wrap_u64] <;> omega)) ?_) | (refine MC.la true (la_load1 hs rfl (by rfl)) rfl ?_) | (refine MC.part rfl rfl (fun h => absurd h (by first | decide | omega)) (fun _ => ?_)) | (refine MC.part rfl rfl (fun _ => ?_) (fun h => absurd (by first | decide | omega) h)) | (refine MC.cond rfl (fun h => absurd h (by first | decide | omega)) (fun _ => ?_)) | (refine MC.cond rfl (fun _ => ?_) (fun h => absurd (by first | decide | omega) h)))
    refine MC.pure (f := true) (po_index_arr (j := 0) (cs := [bool sa, int ea, va, bool sb, int eb, vb]) rfl rfl (by decide) (by simp)) rfl ?_
    refine MC.does true (does_alloc hs) rfl ?_; rintro _ w ⟨b5, rfl, hs⟩
    repeat (first | (refine MC.run1 tab 1000 rfl rfl (by first | exact True.intro | (simp only [Conds, rng, Int.toNat_natCast, List.length_append, bytesV_length] <;> omega) | (simp [Conds, rng] <;> omega) | (simp only [Conds, rng, wrap_u8, wrap_u16, wrap_u32, wrap_u64] <;> omega)) ?_) | (refine MC.la true (la_load1 hs rfl (by rfl)) rfl ?_) | (refine MC.part rfl rfl (fun h => absurd h (by first | decide | omega)) (fun _ => ?_)) | (refine MC.part rfl rfl (fun _ => ?_) (fun h => absurd (by first | decide | omega) h)) | (refine MC.cond rfl (fun h => absurd h (by first | decide | omega)) (fun _ => ?_)) | (refine MC.cond rfl (fun _ => ?_) (fun h => absurd (by first | decide | omega) h)))
    refine MC.does true (does_store (vs := [bool sa, int ea, va]) hs rfl rfl rfl rfl ?_ (by simp)) rfl ?_
    · intro u hu
      obtain ⟨_, q, c, rfl, _⟩ := (hs.pull 2 rfl).sl_len
      simp only [List.mem_cons, List.not_mem_nil, or_false] at hu
      rcases hu with rfl | rfl | rfl <;> rfl
    intro _ w hs
    rw [splice_all (by rfl)] at hs
    cases sa
    · repeat (first | (refine MC.run1 tab 1000 rfl rfl (by first | exact True.intro | (simp only [Conds, rng, Int.toNat_natCast, List.length_append, bytesV_length] <;> omega) | (simp [Conds, rng] <;> omega) | (simp only [Conds, rng, wrap_u8, wrap_u16, wrap_u32, wrap_u64] <;> omega)) ?_) | (refine MC.la true (la_load1 hs rfl (by rfl)) rfl ?_) | (refine MC.part rfl rfl (fun h => absurd h (by first | decide | omega)) (fun _ => ?_)) | (refine MC.part rfl rfl (fun _ => ?_) (fun h => absurd (by first | decide | omega) h)) | (refine MC.cond rfl (fun h => absurd h (by first | decide | omega)) (fun _ => ?_)) | (refine MC.cond rfl (fun _ => ?_) (fun h => absurd (by first | decide | omega) h)))
      refine MC.draw hs [0,1,2,3,4,5,6,7,8,9,10,11,12,13,14,15,16,17] (by rfl) ?_; intro w hs
      repeat (first | (refine MC.run1 tab 1000 rfl rfl (by first | exact True.intro | (simp only [Conds, rng, Int.toNat_natCast, List.length_append, bytesV_length] <;> omega) | (simp [Conds, rng] <;> omega) | (simp only [Conds, rng, wrap_u8, wrap_u16, wrap_u32, wrap_u64] <;> omega)) ?_) | (refine MC.laD true (la_load1 hs rfl (by rfl)) rfl ?_) | (refine MC.part rfl rfl (fun h => absurd h (by first | decide | omega)) (fun _ => ?_)) | (refine MC.part rfl rfl (fun _ => ?_) (fun h => absurd (by first | decide | omega) h)) | (refine MC.cond rfl (fun h => absurd h (by first | decide | omega)) (fun _ => ?_)) | (refine MC.cond rfl (fun _ => ?_) (fun h => absurd (by first | decide | omega) h)))
      exact MC.again 1 (by repeat (first | exact trivial | refine ⟨rfl, ?_⟩)) ⟨by decide, hs.tail⟩ (by decide)
    · repeat (first | (refine MC.run1 tab 1000 rfl rfl (by first | exact True.intro | (simp only [Conds, rng, Int.toNat_natCast, List.length_append, bytesV_length] <;> omega) | (simp [Conds, rng] <;> omega) | (simp only [Conds, rng, wrap_u8, wrap_u16, wrap_u32, wrap_u64] <;> omega)) ?_) | (refine MC.la true (la_load1 hs rfl (by rfl)) rfl ?_) | (refine MC.part rfl rfl (fun h => absurd h (by first | decide | omega)) (fun _ => ?_)) | (refine MC.part rfl rfl (fun _ => ?_) (fun h => absurd (by first | decide | omega) h)) | (refine MC.cond rfl (fun h => absurd h (by first | decide | omega)) (fun _ => ?_)) | (refine MC.cond rfl (fun _ => ?_) (fun h => absurd (by first | decide | omega) h)))
      refine MC.draw hs [0,1,2,3,4,5,6,7,8,9,10,11,12,13,14,15,16,17] (by rfl) ?_; intro w hs
      repeat (first | (refine MC.run1 tab 1000 rfl rfl (by first | exact True.intro | (simp only [Conds, rng, Int.toNat_natCast, List.length_append, bytesV_length] <;> omega) | (simp [Conds, rng] <;> omega) | (simp only [Conds, rng, wrap_u8, wrap_u16, wrap_u32, wrap_u64] <;> omega)) ?_) | (refine MC.laD true (la_load1 hs rfl (by rfl)) rfl ?_) | (refine MC.part rfl rfl (fun h => absurd h (by first | decide | omega)) (fun _ => ?_)) | (refine MC.part rfl rfl (fun _ => ?_) (fun h => absurd (by first | decide | omega) h)) | (refine MC.cond rfl (fun h => absurd h (by first | decide | omega)) (fun _ => ?_)) | (refine MC.cond rfl (fun _ => ?_) (fun h => absurd (by first | decide | omega) h)))
      exact MC.again 1 (by repeat (first | exact trivial | refine ⟨rfl, ?_⟩)) ⟨by decide, hs.tail⟩ (by decide)
  · simp only [if_true, if_neg (show ¬ (1 = 0) by decide)]
    repeat (first | (refine MC.run1 tab 1000 rfl rfl (by first | exact True.intro | (simp only [Conds, rng, Int.toNat_natCast, List.length_append, bytesV_length] <;> omega) | (simp [Conds, rng] <;> omega) | (simp only [Conds, rng, wrap_u8, wrap_u16, wrap_u32, wrap_u64] <;> omega)) ?_) | (refine MC.la true (la_load1 hs rfl (by rfl)) rfl ?_) | (refine MC.part rfl rfl (fun h => absurd h (by first | decide | omega)) (fun _ => ?_)) | (refine MC.part rfl rfl (fun _ => ?_) (fun h => absurd (by first | decide | omega) h)) | (refine MC.cond rfl (fun h => absurd h (by first | decide | omega)) (fun _ => ?_)) | (refine MC.cond rfl (fun _ => ?_) (fun h => absurd (by first | decide | omega) h)))
    refine MC.pure (f := true) (po_index_arr (j := 1) (cs := [bool sa, int ea, va, bool sb, int eb, vb]) rfl rfl (by decide) (by simp)) rfl ?_
    refine MC.does true (does_alloc hs) rfl ?_; rintro _ w ⟨b5, rfl, hs⟩
    repeat (first | (refine MC.run1 tab 1000 rfl rfl (by first | exact True.intro | (simp only [Conds, rng, Int.toNat_natCast, List.length_append, bytesV_length] <;> omega) | (simp [Conds, rng] <;> omega) | (simp only [Conds, rng, wrap_u8, wrap_u16, wrap_u32, wrap_u64] <;> omega)) ?_) | (refine MC.la true (la_load1 hs rfl (by rfl)) rfl ?_) | (refine MC.part rfl rfl (fun h => absurd h (by first | decide | omega)) (fun _ => ?_)) | (refine MC.part rfl rfl (fun _ => ?_) (fun h => absurd (by first | decide | omega) h)) | (refine MC.cond rfl (fun h => absurd h (by first | decide | omega)) (fun _ => ?_)) | (refine MC.cond rfl (fun _ => ?_) (fun h => absurd (by first | decide | omega) h)))
    refine MC.does true (does_store (vs := [bool sb, int eb, vb]) hs rfl rfl rfl rfl ?_ (by simp)) rfl ?_
    · intro u hu
      obtain ⟨_, q, c, rfl, _⟩ := (hs.pull 3 rfl).sl_len
      simp only [List.mem_cons, List.not_mem_nil, or_false] at hu
      rcases hu with rfl | rfl | rfl <;> rfl
    intro _ w hs
    rw [splice_all (by rfl)] at hs
    cases sb
    · have hw : whichOf ⟨sa, ea, fa⟩ ⟨false, eb, fb⟩ = if sa then 0 else -1 := by simp [whichOf]
      repeat (first | (refine MC.run1 tab 1000 rfl rfl (by first | exact True.intro | (simp only [Conds, rng, Int.toNat_natCast, List.length_append, bytesV_length] <;> omega) | (simp [Conds, rng] <;> omega) | (simp only [Conds, rng, wrap_u8, wrap_u16, wrap_u32, wrap_u64] <;> omega)) ?_) | (refine MC.la true (la_load1 hs rfl (by rfl)) rfl ?_) | (refine MC.part rfl rfl (fun h => absurd h (by first | decide | omega)) (fun _ => ?_)) | (refine MC.part rfl rfl (fun _ => ?_) (fun h => absurd (by first | decide | omega) h)) | (refine MC.cond rfl (fun h => absurd h (by first | decide | omega)) (fun _ => ?_)) | (refine MC.cond rfl (fun _ => ?_) (fun h => absurd (by first | decide | omega) h)))
      refine MC.draw hs [0,1,2,3,4,5,6,7,8,9,10,11,12,13,14,15,16,17] (by rfl) ?_; intro w hs
      repeat (first | (refine MC.run1 tab 1000 rfl rfl (by first | exact True.intro | (simp only [Conds, rng, Int.toNat_natCast, List.length_append, bytesV_length] <;> omega) | (simp [Conds, rng] <;> omega) | (simp only [Conds, rng, wrap_u8, wrap_u16, wrap_u32, wrap_u64] <;> omega)) ?_) | (refine MC.laD true (la_load1 hs rfl (by rfl)) rfl ?_) | (refine MC.part rfl rfl (fun h => absurd h (by first | decide | omega)) (fun _ => ?_)) | (refine MC.part rfl rfl (fun _ => ?_) (fun h => absurd (by first | decide | omega) h)) | (refine MC.cond rfl (fun h => absurd h (by first | decide | omega)) (fun _ => ?_)) | (refine MC.cond rfl (fun _ => ?_) (fun h => absurd (by first | decide | omega) h)))
      refine MC.again 2 ⟨rfl, ?_, rfl, rfl, trivial⟩ ⟨by decide, hs.tail⟩ (by decide)
      exact congrArg (fun n => some (int n)) hw.symm
    · cases sa
      · have hw : whichOf ⟨false, ea, fa⟩ ⟨true, eb, fb⟩ = 1 := by simp [whichOf]
        simp only [Bool.false_eq_true, if_false]
        repeat (first | (refine MC.run1 tab 1000 rfl rfl (by first | exact True.intro | (simp only [Conds, rng, Int.toNat_natCast, List.length_append, bytesV_length] <;> omega) | (simp [Conds, rng] <;> omega) | (simp only [Conds, rng, wrap_u8, wrap_u16, wrap_u32, wrap_u64] <;> omega)) ?_) | (refine MC.la true (la_load1 hs rfl (by rfl)) rfl ?_) | (refine MC.part rfl rfl (fun h => absurd h (by first | decide | omega)) (fun _ => ?_)) | (refine MC.part rfl rfl (fun _ => ?_) (fun h => absurd (by first | decide | omega) h)) | (refine MC.cond rfl (fun h => absurd h (by first | decide | omega)) (fun _ => ?_)) | (refine MC.cond rfl (fun _ => ?_) (fun h => absurd (by first | decide | omega) h)))
        refine MC.draw hs [0,1,2,3,4,5,6,7,8,9,10,11,12,13,14,15,16,17] (by rfl) ?_; intro w hs
        repeat (first | (refine MC.run1 tab 1000 rfl rfl (by first | exact True.intro | (simp only [Conds, rng, Int.toNat_natCast, List.length_append, bytesV_length] <;> omega) | (simp [Conds, rng] <;> omega) | (simp only [Conds, rng, wrap_u8, wrap_u16, wrap_u32, wrap_u64] <;> omega)) ?_) | (refine MC.laD true (la_load1 hs rfl (by rfl)) rfl ?_) | (refine MC.part rfl rfl (fun h => absurd h (by first | decide | omega)) (fun _ => ?_)) | (refine MC.part rfl rfl (fun _ => ?_) (fun h => absurd (by first | decide | omega) h)) | (refine MC.cond rfl (fun h => absurd h (by first | decide | omega)) (fun _ => ?_)) | (refine MC.cond rfl (fun _ => ?_) (fun h => absurd (by first | decide | omega) h)))
        refine MC.again 2 ⟨rfl, ?_, rfl, rfl, trivial⟩ ⟨by decide, hs.tail⟩ (by decide)
        exact congrArg (fun n => some (int n)) hw.symm
      · try simp only [if_true]
        repeat (first | (refine MC.run1 tab 1000 rfl rfl (by first | exact True.intro | (simp only [Conds, rng, Int.toNat_natCast, List.length_append, bytesV_length] <;> omega) | (simp [Conds, rng] <;> omega) | (simp only [Conds, rng, wrap_u8, wrap_u16, wrap_u32, wrap_u64] <;> omega)) ?_) | (refine MC.la true (la_load1 hs rfl (by rfl)) rfl ?_) | (refine MC.part rfl rfl (fun h => absurd h (by first | decide | omega)) (fun _ => ?_)) | (refine MC.part rfl rfl (fun _ => ?_) (fun h => absurd (by first | decide | omega) h)) | (refine MC.cond rfl (fun h => absurd h (by first | decide | omega)) (fun _ => ?_)) | (refine MC.cond rfl (fun _ => ?_) (fun h => absurd (by first | decide | omega) h)))
        refine MC.draw hs [0,1,2,3,4,5,6,7,8,9,10,11,12,13,14,15,16,17] (by rfl) ?_; intro w hs
        repeat (first | (refine MC.run1 tab 1000 rfl rfl (by first | exact True.intro | (simp only [Conds, rng, Int.toNat_natCast, List.length_append, bytesV_length] <;> omega) | (simp [Conds, rng] <;> omega) | (simp only [Conds, rng, wrap_u8, wrap_u16, wrap_u32, wrap_u64] <;> omega)) ?_) | (refine MC.laD true (la_load1 hs rfl (by rfl)) rfl ?_) | (refine MC.part rfl rfl (fun h => absurd h (by first | decide | omega)) (fun _ => ?_)) | (refine MC.part rfl rfl (fun _ => ?_) (fun h => absurd (by first | decide | omega) h)) | (refine MC.cond rfl (fun h => absurd h (by first | decide | omega)) (fun _ => ?_)) | (refine MC.cond rfl (fun _ => ?_) (fun h => absurd (by first | decide | omega) h)))
        refine MC.cond rfl (fun h => ?_) (fun h => ?_)
        · have hw : whichOf ⟨true, ea, fa⟩ ⟨true, eb, fb⟩ = 1 := by simp [whichOf, h]
          repeat (first | (refine MC.run1 tab 1000 rfl rfl (by first | exact True.intro | (simp only [Conds, rng, Int.toNat_natCast, List.length_append, bytesV_length] <;> omega) | (simp [Conds, rng] <;> omega) | (simp only [Conds, rng, wrap_u8, wrap_u16, wrap_u32, wrap_u64] <;> omega)) ?_) | (refine MC.la true (la_load1 hs rfl (by rfl)) rfl ?_) | (refine MC.part rfl rfl (fun h => absurd h (by first | decide | omega)) (fun _ => ?_)) | (refine MC.part rfl rfl (fun _ => ?_) (fun h => absurd (by first | decide | omega) h)) | (refine MC.cond rfl (fun h => absurd h (by first | decide | omega)) (fun _ => ?_)) | (refine MC.cond rfl (fun _ => ?_) (fun h => absurd (by first | decide | omega) h)))
          refine MC.again 2 ⟨rfl, ?_, rfl, rfl, trivial⟩ ⟨by decide, hs.tail⟩ (by decide)
          exact congrArg (fun n => some (int n)) hw.symm
        · have hw : whichOf ⟨true, ea, fa⟩ ⟨true, eb, fb⟩ = 0 := by simp [whichOf, h]
          repeat (first | (refine MC.run1 tab 1000 rfl rfl (by first | exact True.intro | (simp only [Conds, rng, Int.toNat_natCast, List.length_append, bytesV_length] <;> omega) | (simp [Conds, rng] <;> omega) | (simp only [Conds, rng, wrap_u8, wrap_u16, wrap_u32, wrap_u64] <;> omega)) ?_) | (refine MC.la true (la_load1 hs rfl (by rfl)) rfl ?_) | (refine MC.part rfl rfl (fun h => absurd h (by first | decide | omega)) (fun _ => ?_)) | (refine MC.part rfl rfl (fun _ => ?_) (fun h => absurd (by first | decide | omega) h)) | (refine MC.cond rfl (fun h => absurd h (by first | decide | omega)) (fun _ => ?_)) | (refine MC.cond rfl (fun _ => ?_) (fun h => absurd (by first | decide | omega) h)))
          refine MC.again 2 ⟨rfl, ?_, rfl, rfl, trivial⟩ ⟨by decide, hs.tail⟩ (by decide)
          exact congrArg (fun n => some (int n)) hw.symm
  · simp only [if_neg (show ¬ (2 = 0) by decide), if_neg (show ¬ (2 = 1) by decide)]
    repeat (first | (refine MC.run1 tab 1000 rfl rfl (by first | exact True.intro | (simp only [Conds, rng, Int.toNat_natCast, List.length_append, bytesV_length] <;> omega) | (simp [Conds, rng] <;> omega) | (simp only [Conds, rng, wrap_u8, wrap_u16, wrap_u32, wrap_u64] <;> omega)) ?_) | (refine MC.la true (la_load1 hs rfl (by rfl)) rfl ?_) | (refine MC.part rfl rfl (fun h => absurd h (by first | decide | omega)) (fun _ => ?_)) | (refine MC.part rfl rfl (fun _ => ?_) (fun h => absurd (by first | decide | omega) h)) | (refine MC.cond rfl (fun h => absurd h (by first | decide | omega)) (fun _ => ?_)) | (refine MC.cond rfl (fun _ => ?_) (fun h => absurd (by first | decide | omega) h)))
    refine MC.ret rfl ?_
    exact ⟨rfl, rt_shut hs⟩
theorem whichOf_cases (A B : Sv) : (whichOf A B = -1 ∧ A.stands = false ∧ B.stands = false) ∨ (whichOf A B = 0 ∧ A.stands = true ∧ (B.stands = true → B.epoch ≤ A.epoch)) ∨ (whichOf A B = 1 ∧ B.stands = true ∧ (A.stands = true → A.epoch < B.epoch)) := by
  obtain ⟨sa, ea, fa⟩ := A
  obtain ⟨sb, eb, fb⟩ := B
  cases sa <;> cases sb <;> simp [whichOf]
  omega
def latestOf (A B : Sv) : Sv := if whichOf A B = 1 then B else if whichOf A B = 0 then A else Sv.no
theorem latest_spec {F : List Assn} {r p : Nat} {at' : Int} {A B : Sv} {w : World} (hs : Sat (rt r p at' A B :: F) w) (hA : A.fields.length ≤ 1000) (hB : B.fields.length ≤ 1000) :
    Ret Try.prog 24 [ptr r] w fun v w' => ∃ vf, v = .tuple #[vf, int (latestOf A B).epoch, bool (latestOf A B).stands] ∧ Sat (sl vf 3 1 (latestOf A B).fields.length (intsV (latestOf A B).fields) :: rt r p at' A B :: F) w' := by
  have hwh := which_spec hs
  have hkeep : ∃ va vb, Sat (blk r [ptr p, int at', bool A.stands, int A.epoch, va, bool B.stands, int B.epoch, vb] 62 :: sl va 3 1 A.fields.length (intsV A.fields) :: sl vb 3 1 B.fields.length (intsV B.fields) :: F) w := rt_open hs
  obtain ⟨va0, vb0, hs0⟩ := hkeep
  refine Ret.enter [(true, ptr r)] _ Try.func24 rfl Try.ntmps24 rfl ?_
  repeat (first | (refine MC.run1 tab 1000 rfl rfl (by first | exact True.intro | (simp only [Conds, rng, Int.toNat_natCast, List.length_append, bytesV_length] <;> omega) | (simp [Conds, rng] <;> omega) | (simp only [Conds, rng, wrap_u8, wrap_u16, wrap_u32, wrap_u64] <;> omega)) ?_) | (refine MC.la true (la_load1 hs rfl (by rfl)) rfl ?_) | (refine MC.part rfl rfl (fun h => absurd h (by first | decide | omega)) (fun _ => ?_)) | (refine MC.part rfl rfl (fun _ => ?_) (fun h => absurd (by first | decide | omega) h)) | (refine MC.cond rfl (fun h => absurd h (by first | decide | omega)) (fun _ => ?_)) | (refine MC.cond rfl (fun _ => ?_) (fun h => absurd (by first | decide | omega) h)))
  refine MC.la true (la_load1 hs0 rfl (by rfl)) rfl ?_
  repeat (first | (refine MC.run1 tab 1000 rfl rfl (by first | exact True.intro | (simp only [Conds, rng, Int.toNat_natCast, List.length_append, bytesV_length] <;> omega) | (simp [Conds, rng] <;> omega) | (simp only [Conds, rng, wrap_u8, wrap_u16, wrap_u32, wrap_u64] <;> omega)) ?_) | (refine MC.la true (la_load1 hs rfl (by rfl)) rfl ?_) | (refine MC.part rfl rfl (fun h => absurd h (by first | decide | omega)) (fun _ => ?_)) | (refine MC.part rfl rfl (fun _ => ?_) (fun h => absurd (by first | decide | omega) h)) | (refine MC.cond rfl (fun h => absurd h (by first | decide | omega)) (fun _ => ?_)) | (refine MC.cond rfl (fun _ => ?_) (fun h => absurd (by first | decide | omega) h)))
  refine MC.does true (does_call rfl (hwh)) rfl ?_
  rintro _ w ⟨rfl, hs⟩
  have hc := whichOf_cases A B
  obtain ⟨va, vb, hs⟩ := rt_open hs
  obtain ⟨_, qa, ca, rfl, _⟩ := (hs.pull 1 rfl).sl_len
  obtain ⟨_, qb, cb, rfl, _⟩ := (hs.pull 2 rfl).sl_len
  rcases hc with ⟨e, h1, h2⟩ | ⟨e, h1, h2⟩ | ⟨e, h1, h2⟩
  · rw [show latestOf A B = Sv.no by simp [latestOf, e], e]
    repeat (first | (refine MC.run1 tab 1000 rfl rfl (by first | exact True.intro | (simp only [Conds, rng, Int.toNat_natCast, List.length_append, bytesV_length] <;> omega) | (simp [Conds, rng] <;> omega) | (simp only [Conds, rng, wrap_u8, wrap_u16, wrap_u32, wrap_u64] <;> omega)) ?_) | (refine MC.la true (la_load1 hs rfl (by rfl)) rfl ?_) | (refine MC.part rfl rfl (fun h => absurd h (by first | decide | omega)) (fun _ => ?_)) | (refine MC.part rfl rfl (fun _ => ?_) (fun h => absurd (by first | decide | omega) h)) | (refine MC.cond rfl (fun h => absurd h (by first | decide | omega)) (fun _ => ?_)) | (refine MC.cond rfl (fun _ => ?_) (fun h => absurd (by first | decide | omega) h)))
    refine MC.ret rfl ?_
    exact ⟨_, rfl, (rt_shut hs).sl_nil _ _⟩
  · rw [show latestOf A B = A by simp [latestOf, e], e, h1]
    have hra := RdS.of_sl hs.tail
    repeat (first | (refine MC.run1 tab 1000 rfl rfl (by first | exact True.intro | (simp only [Conds, rng, Int.toNat_natCast, List.length_append, bytesV_length] <;> omega) | (simp [Conds, rng] <;> omega) | (simp only [Conds, rng, wrap_u8, wrap_u16, wrap_u32, wrap_u64] <;> omega)) ?_) | (refine MC.la true (la_load1 hs rfl (by rfl)) rfl ?_) | (refine MC.part rfl rfl (fun h => absurd h (by first | decide | omega)) (fun _ => ?_)) | (refine MC.part rfl rfl (fun _ => ?_) (fun h => absurd (by first | decide | omega) h)) | (refine MC.cond rfl (fun h => absurd h (by first | decide | omega)) (fun _ => ?_)) | (refine MC.cond rfl (fun _ => ?_) (fun h => absurd (by first | decide | omega) h)))
    refine MC.draw hs [1,2,3,4,5,6,7,9,10,11,12,13,14,15,0,8,16,17,18] (by rfl) ?_; intro w hs
    repeat (first | (refine MC.run1 tab 1000 rfl rfl (by first | exact True.intro | (simp only [Conds, rng, Int.toNat_natCast, List.length_append, bytesV_length] <;> omega) | (simp [Conds, rng] <;> omega) | (simp only [Conds, rng, wrap_u8, wrap_u16, wrap_u32, wrap_u64] <;> omega)) ?_) | (refine MC.laD true (la_load1 hs rfl (by rfl)) rfl ?_) | (refine MC.part rfl rfl (fun h => absurd h (by first | decide | omega)) (fun _ => ?_)) | (refine MC.part rfl rfl (fun _ => ?_) (fun h => absurd (by first | decide | omega) h)) | (refine MC.cond rfl (fun h => absurd h (by first | decide | omega)) (fun _ => ?_)) | (refine MC.cond rfl (fun _ => ?_) (fun h => absurd (by first | decide | omega) h)))
    refine MC.doesK true (does_buildSlice0 hs) rfl rfl rfl ?_
    rintro _ w ⟨b9, rfl, hs⟩
    refine ⟨(by repeat (first | exact True.intro | refine ⟨At.sat hs, ?_⟩ | refine ⟨Suf.sat hs, ?_⟩)), ?_⟩
    have hs := Sat.sl_mk (xs := []) (spare := []) (n := 0) (c := 0) (size := 1) hs (Nat.le_refl _) rfl rfl
    refine MC.doesK true (does_append hs rfl rfl (RdS.src hra (intsV_one _)) (by omega) (by omega)) rfl rfl rfl ?_
    intro v w hs
    refine ⟨(by repeat (first | exact True.intro | refine ⟨At.sat hs, ?_⟩ | refine ⟨Suf.sat hs, ?_⟩)), ?_⟩
    rw [Nat.zero_add, List.nil_append] at hs
    repeat (first | (refine MC.run1 tab 1000 rfl rfl (by first | exact True.intro | (simp only [Conds, rng, Int.toNat_natCast, List.length_append, bytesV_length] <;> omega) | (simp [Conds, rng] <;> omega) | (simp only [Conds, rng, wrap_u8, wrap_u16, wrap_u32, wrap_u64] <;> omega)) ?_) | (refine MC.laD true (la_load1 hs rfl (by rfl)) rfl ?_) | (refine MC.part rfl rfl (fun h => absurd h (by first | decide | omega)) (fun _ => ?_)) | (refine MC.part rfl rfl (fun _ => ?_) (fun h => absurd (by first | decide | omega) h)) | (refine MC.cond rfl (fun h => absurd h (by first | decide | omega)) (fun _ => ?_)) | (refine MC.cond rfl (fun _ => ?_) (fun h => absurd (by first | decide | omega) h)))
    refine MC.ret rfl ?_
    refine ⟨_, rfl, ?_⟩
    have hs := hs.pickF 4 [1, 2, 3, 0] rfl rfl
    exact (rt_shut hs).swap
  · rw [show latestOf A B = B by simp [latestOf, e], e, h1]
    have hrb := RdS.of_sl hs.tail.tail
    repeat (first | (refine MC.run1 tab 1000 rfl rfl (by first | exact True.intro | (simp only [Conds, rng, Int.toNat_natCast, List.length_append, bytesV_length] <;> omega) | (simp [Conds, rng] <;> omega) | (simp only [Conds, rng, wrap_u8, wrap_u16, wrap_u32, wrap_u64] <;> omega)) ?_) | (refine MC.la true (la_load1 hs rfl (by rfl)) rfl ?_) | (refine MC.part rfl rfl (fun h => absurd h (by first | decide | omega)) (fun _ => ?_)) | (refine MC.part rfl rfl (fun _ => ?_) (fun h => absurd (by first | decide | omega) h)) | (refine MC.cond rfl (fun h => absurd h (by first | decide | omega)) (fun _ => ?_)) | (refine MC.cond rfl (fun _ => ?_) (fun h => absurd (by first | decide | omega) h)))
    refine MC.draw hs [1,2,3,4,5,6,7,9,10,11,12,13,14,15,0,8,16,17,18] (by rfl) ?_; intro w hs
    repeat (first | (refine MC.run1 tab 1000 rfl rfl (by first | exact True.intro | (simp only [Conds, rng, Int.toNat_natCast, List.length_append, bytesV_length] <;> omega) | (simp [Conds, rng] <;> omega) | (simp only [Conds, rng, wrap_u8, wrap_u16, wrap_u32, wrap_u64] <;> omega)) ?_) | (refine MC.laD true (la_load1 hs rfl (by rfl)) rfl ?_) | (refine MC.part rfl rfl (fun h => absurd h (by first | decide | omega)) (fun _ => ?_)) | (refine MC.part rfl rfl (fun _ => ?_) (fun h => absurd (by first | decide | omega) h)) | (refine MC.cond rfl (fun h => absurd h (by first | decide | omega)) (fun _ => ?_)) | (refine MC.cond rfl (fun _ => ?_) (fun h => absurd (by first | decide | omega) h)))
    refine MC.doesK true (does_buildSlice0 hs) rfl rfl rfl ?_
    rintro _ w ⟨b9, rfl, hs⟩
    refine ⟨(by repeat (first | exact True.intro | refine ⟨At.sat hs, ?_⟩ | refine ⟨Suf.sat hs, ?_⟩)), ?_⟩
    have hs := Sat.sl_mk (xs := []) (spare := []) (n := 0) (c := 0) (size := 1) hs (Nat.le_refl _) rfl rfl
    refine MC.doesK true (does_append hs rfl rfl (RdS.src hrb (intsV_one _)) (by omega) (by omega)) rfl rfl rfl ?_
    intro v w hs
    refine ⟨(by repeat (first | exact True.intro | refine ⟨At.sat hs, ?_⟩ | refine ⟨Suf.sat hs, ?_⟩)), ?_⟩
    rw [Nat.zero_add, List.nil_append] at hs
    repeat (first | (refine MC.run1 tab 1000 rfl rfl (by first | exact True.intro | (simp only [Conds, rng, Int.toNat_natCast, List.length_append, bytesV_length] <;> omega) | (simp [Conds, rng] <;> omega) | (simp only [Conds, rng, wrap_u8, wrap_u16, wrap_u32, wrap_u64] <;> omega)) ?_) | (refine MC.laD true (la_load1 hs rfl (by rfl)) rfl ?_) | (refine MC.part rfl rfl (fun h => absurd h (by first | decide | omega)) (fun _ => ?_)) | (refine MC.part rfl rfl (fun _ => ?_) (fun h => absurd (by first | decide | omega) h)) | (refine MC.cond rfl (fun h => absurd h (by first | decide | omega)) (fun _ => ?_)) | (refine MC.cond rfl (fun _ => ?_) (fun h => absurd (by first | decide | omega) h)))
    refine MC.ret rfl ?_
    refine ⟨_, rfl, ?_⟩
    have hs := hs.pickF 4 [1, 2, 3, 0] rfl rfl
    exact (rt_shut hs).swap
end Go.Proofs.Ytoljbocejclaeaa
