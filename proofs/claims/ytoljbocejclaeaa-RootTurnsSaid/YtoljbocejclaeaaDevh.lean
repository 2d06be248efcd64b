/- The laws' helpers: all that is read; the examples. -/
import Derived.Test.YtoljbocejclaeaaDevg
set_option linter.unusedVariables false
set_option linter.unusedSimpArgs false
namespace Go.Proofs.Ytoljbocejclaeaa
open Go Go.Sl
attribute [local irreducible] LooksAt

def Dev.bytes (D : Dev) : List UInt8 := (laid D.S D.O).flatten
theorem flatten_length {S : List (List UInt8)} (h : ∀ s ∈ S, s.length = 256) : S.flatten.length = S.length * 256 := by
  induction S with
  | nil => rfl
  | cons s S ih => rw [List.flatten_cons, List.length_append, h s List.mem_cons_self, ih fun x hx => h x (List.mem_cons_of_mem _ hx), List.length_cons]; omega
theorem image_spec {F : List Assn} {p : Nat} {D : Dev} {w : World} (hs : Sat (dev p D :: F) w) (hD : D.ok) (hO : D.O.length ≤ 100000) (hf : D.fuse ≠ 1) :
    Ret Try.prog 16 [ptr p] w fun v w' => v = str D.bytes ∧ ∃ r, Sat (dev p { D with reads := r } :: F) w' := by
  have hfew := hD.few
  have hls : ∀ s ∈ laid D.S D.O, s.length = 256 := laid_sec _ _ hD.sec fun x hx => (hD.op x hx).1
  have hll : (laid D.S D.O).length = D.S.length := laid_length _ _
  refine Ret.enter [(true, ptr p)] _ Try.func16 rfl Try.ntmps16 rfl ?_
  repeat (first | (refine MC.run1 tab 1000 rfl rfl (by first | exact True.intro | (simp only [Conds, rng, Int.toNat_natCast, List.length_append, bytesV_length] <;> omega) | (simp [Conds, rng] <;> omega)) ?_) | (refine MC.la true (la_load1 hs rfl (by rfl)) rfl ?_))
  refine MC.loop (σ := Nat × Int) (fun s => [(0, true, ptr p), (3, true, str (((laid D.S D.O).take s.1).flatten)), (4, true, int (s.1 : Nat))])
    (fun s w => s.1 ≤ D.S.length ∧ Sat (dev p { D with reads := s.2 } :: F) w) (fun s => D.S.length - s.1) (0, D.reads) (by repeat (first | exact trivial | refine ⟨rfl, ?_⟩)) ⟨by omega, hs⟩ ?_
  rintro ⟨i, r⟩ w ⟨hi, hs⟩
  have hi : i ≤ D.S.length := hi
  have hs : Sat (dev p { D with reads := r } :: F) w := hs
  have hDr : ({ D with reads := r } : Dev).ok := { hD with }
  have hsz : Ret Try.prog 22 [ptr p] w fun v w' => v = int D.S.length ∧ w' = w := size_spec (D := { D with reads := r }) hs
  repeat (first | (refine MC.run1 tab 1000 rfl rfl (by first | exact True.intro | (simp only [Conds, rng, Int.toNat_natCast, List.length_append, bytesV_length] <;> omega) | (simp [Conds, rng] <;> omega)) ?_) | (refine MC.la true (la_load1 hs rfl (by rfl)) rfl ?_))
  refine MC.does true (does_call rfl (hsz)) rfl ?_
  rintro _ w' ⟨rfl, rfl⟩
  repeat (first | (refine MC.run1 tab 1000 rfl rfl (by first | exact True.intro | (simp only [Conds, rng, Int.toNat_natCast, List.length_append, bytesV_length] <;> omega) | (simp [Conds, rng] <;> omega)) ?_) | (refine MC.la true (la_load1 hs rfl (by rfl)) rfl ?_))
  refine MC.cond rfl (fun hlt => ?_) (fun hge => ?_)
  · have hlt : i < D.S.length := by
      have hlt : (i : Int) < (D.S.length : Int) := hlt
      omega
    have hwr : ({ D with reads := r } : Dev).wrong (i : Nat) 256 = 0 := Dev.wrong_zero.2 ⟨by omega, by show (i : Int) < (D.S.length : Int); omega, rfl, hf⟩
    repeat (first | (refine MC.run1 tab 1000 rfl rfl (by first | exact True.intro | (simp only [Conds, rng, Int.toNat_natCast, List.length_append, bytesV_length] <;> omega) | (simp [Conds, rng] <;> omega)) ?_) | (refine MC.la true (la_load1 hs rfl (by rfl)) rfl ?_))
    refine MC.does true (does_call rfl (read_spec hs hDr hO)) rfl ?_
    rintro _ w hv
    rw [if_pos hwr] at hv
    obtain ⟨vb, rfl, hs⟩ := hv
    obtain ⟨_, qv, cv, rfl, _⟩ := hs.sl_len
    have hr := RdS.of_sl hs
    have hg : Dev.get { D with reads := r } ((i : Nat) : Int).toNat = (laid D.S D.O)[i]'(by omega) := by
      rw [Int.toNat_natCast]
      show (laid D.S D.O).getD i [] = _
      rw [List.getD_eq_getElem?_getD, List.getElem?_eq_getElem (show i < (laid D.S D.O).length by omega)]; rfl
    rw [hg] at hs hr
    repeat (first | (refine MC.run1 tab 1000 rfl rfl (by first | exact True.intro | (simp only [Conds, rng, Int.toNat_natCast, List.length_append, bytesV_length] <;> omega) | (simp [Conds, rng] <;> omega)) ?_) | (refine MC.la true (la_load1 hs rfl (by rfl)) rfl ?_))
    refine MC.la true (la_tostr rfl hr hs) rfl ?_
    refine MC.pure (f := true) (po_bin rfl rfl (br_sadd ?_)) rfl ?_
    · have h1 : (((laid D.S D.O).take i).flatten).length = ((laid D.S D.O).take i).length * 256 := flatten_length fun s hs => hls s (List.mem_of_mem_take hs)
      have h2 : ((laid D.S D.O)[i]'(by omega)).length = 256 := hls _ (List.getElem_mem _)
      have h3 : ((laid D.S D.O).take i).length ≤ i := List.length_take_le _ _
      simp only [Nat.ble_eq]
      omega
    repeat (first | (refine MC.run1 tab 1000 rfl rfl (by first | exact True.intro | (simp only [Conds, rng, Int.toNat_natCast, List.length_append, bytesV_length] <;> omega) | (simp [Conds, rng] <;> omega)) ?_) | (refine MC.la true (la_load1 hs rfl (by rfl)) rfl ?_))
    have e : ((laid D.S D.O).take i).flatten ++ (laid D.S D.O)[i]'(by omega) = ((laid D.S D.O).take (i + 1)).flatten := by
      rw [List.take_add_one, List.getElem?_eq_getElem (show i < (laid D.S D.O).length by omega), List.flatten_append]; simp
    refine MC.again (i + 1, IntKind.i64.wrap (r + 1)) ⟨rfl, ?_, rfl, trivial⟩ ⟨hlt, hs.tail⟩ (by show D.S.length - (i + 1) < D.S.length - i; omega)
    exact congrArg (fun l => some (str l)) e
  · have hi' : i = D.S.length := by
      have hge : ¬ (i : Int) < (D.S.length : Int) := hge
      omega
    subst hi'
    repeat (first | (refine MC.run1 tab 1000 rfl rfl (by first | exact True.intro | (simp only [Conds, rng, Int.toNat_natCast, List.length_append, bytesV_length] <;> omega) | (simp [Conds, rng] <;> omega)) ?_) | (refine MC.la true (la_load1 hs rfl (by rfl)) rfl ?_))
    refine MC.ret rfl ?_
    refine ⟨?_, r, hs⟩
    show str (List.take D.S.length (laid D.S D.O)).flatten = str D.bytes
    rw [← hll, List.take_length]; rfl
end Go.Proofs.Ytoljbocejclaeaa
