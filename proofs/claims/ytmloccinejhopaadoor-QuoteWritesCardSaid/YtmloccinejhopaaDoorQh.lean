/- Texts in quotes: the document's reading, on. -/
import Derived.Test.YtmloccinejhopaaDoorQg
set_option linter.unusedVariables false
set_option linter.unusedSimpArgs false
namespace Go.Proofs.YtmloccinejhopaaDoor
open Go Go.Sl Go.Qt Go.Lib
attribute [local irreducible] LooksAt

def readV (o : Option (Bs × Nat)) : Value := match o with | none => .tuple #[str [], int 0, int 20] | some (x, n) => .tuple #[str x, int (n : Int), int 0]
/-- What is read of the rest, behind what was read. -/
def behind (acc : Bs) (p : Nat) (o : Option (Bs × Nat)) : Option (Bs × Nat) := match o with | none => none | some (x, m) => some (acc ++ x, p + m)
theorem behind_step {b : UInt8} {t : Bs} {c : Int} {k : Nat} (acc : Bs) (p : Nat) (hb : b ≠ 34) (h : pieceL (b :: t) = some (c, k)) :
    behind acc p (readR (b :: t)) = behind (acc ++ encodeRune c) (p + k) (readR ((b :: t).drop k)) := by
  rw [readR_step hb h]
  cases readR ((b :: t).drop k) with
  | none => rfl
  | some x => simp only [behind, List.append_assoc, Nat.add_assoc]
theorem readL_cons (t : Bs) : readL (34 :: t) = behind [] 1 (readR t) := by
  show (match readR t with | none => none | some (x, m) => some (x, m + 1)) = _
  cases readR t with
  | none => rfl
  | some x => simp only [behind, List.nil_append, Nat.add_comm]
theorem readL_no {b : UInt8} {t : Bs} (h : b ≠ 34) : readL (b :: t) = none := if_neg h
theorem getD_drop {s : Bs} {n : Nat} {b : UInt8} {t : Bs} (h : s.drop n = b :: t) : s.getD n 0 = b := by
  have : (s.drop n)[0]? = some b := by rw [h]; rfl
  rw [List.getElem?_drop] at this
  simp only [List.getD_eq_getElem?_getD]
  rw [show n = n + 0 from rfl, this]; rfl
theorem refRead_spec {F : List Assn} {w : World} (s : Bs) (hs : Sat F w) (hl : s.length ≤ 140737488355328) :
    Ret Tryd.prog 15 [str s] w fun v w' => v = readV (readL s) ∧ Sat F w' := by
  refine Ret.enter [(true, str s)] _ Tryd.func15 rfl Tryd.ntmps15 rfl ?_
  cases s with
  | nil =>
    repeat (first | (refine MC.run1 tab 1000 rfl rfl (by first | exact True.intro | (simp only [Conds, rng, Int.toNat_natCast, List.length_append, bytesV_length] <;> omega) | (simp [Conds, rng] <;> omega) | (simp only [Conds, rng, wrap_u8, wrap_u16, wrap_u32, wrap_u64] <;> omega)) ?_) | (refine MC.la true (la_load1 hs rfl (by rfl)) rfl ?_) | (refine MC.part rfl rfl (fun h => absurd h (by first | decide | omega)) (fun _ => ?_)) | (refine MC.part rfl rfl (fun _ => ?_) (fun h => absurd (by first | decide | omega) h)) | (refine MC.cond rfl (fun h => absurd h (by first | decide | omega)) (fun _ => ?_)) | (refine MC.cond rfl (fun _ => ?_) (fun h => absurd (by first | decide | omega) h)))
    refine MC.ret rfl ?_
    exact ⟨rfl, hs⟩
  | cons b t =>
    have hb := UInt8.toNat_lt b
    have hlen : (b :: t).length = t.length + 1 := rfl
    have b0 : byteAt (b :: t) (0 : Int).toNat = (b.toNat : Int) := rfl
    repeat (first | (refine MC.run1 tab 1000 rfl rfl (by first | exact True.intro | (simp only [Conds, rng, Int.toNat_natCast, List.length_append, bytesV_length] <;> omega) | (simp [Conds, rng] <;> omega) | (simp only [Conds, rng, wrap_u8, wrap_u16, wrap_u32, wrap_u64] <;> omega)) ?_) | (refine MC.la true (la_load1 hs rfl (by rfl)) rfl ?_) | (refine MC.part rfl rfl (fun h => absurd h (by first | decide | omega)) (fun _ => ?_)) | (refine MC.part rfl rfl (fun _ => ?_) (fun h => absurd (by first | decide | omega) h)) | (refine MC.cond rfl (fun h => absurd h (by first | decide | omega)) (fun _ => ?_)) | (refine MC.cond rfl (fun _ => ?_) (fun h => absurd (by first | decide | omega) h)))
    rw [b0]
    refine MC.cond rfl (fun h => ?_) (fun h => ?_)
    · rw [readL_no (fun e => h (by rw [e]; rfl))]
      repeat (first | (refine MC.run1 tab 1000 rfl rfl (by first | exact True.intro | (simp only [Conds, rng, Int.toNat_natCast, List.length_append, bytesV_length] <;> omega) | (simp [Conds, rng] <;> omega) | (simp only [Conds, rng, wrap_u8, wrap_u16, wrap_u32, wrap_u64] <;> omega)) ?_) | (refine MC.la true (la_load1 hs rfl (by rfl)) rfl ?_) | (refine MC.part rfl rfl (fun h => absurd h (by first | decide | omega)) (fun _ => ?_)) | (refine MC.part rfl rfl (fun _ => ?_) (fun h => absurd (by first | decide | omega) h)) | (refine MC.cond rfl (fun h => absurd h (by first | decide | omega)) (fun _ => ?_)) | (refine MC.cond rfl (fun _ => ?_) (fun h => absurd (by first | decide | omega) h)))
      refine MC.ret rfl ?_
      exact ⟨rfl, hs⟩
    have h := u8i (k := 34) (Decidable.not_not.1 h)
    subst h
    rw [readL_cons]
    repeat (first | (refine MC.run1 tab 1000 rfl rfl (by first | exact True.intro | (simp only [Conds, rng, Int.toNat_natCast, List.length_append, bytesV_length] <;> omega) | (simp [Conds, rng] <;> omega) | (simp only [Conds, rng, wrap_u8, wrap_u16, wrap_u32, wrap_u64] <;> omega)) ?_) | (refine MC.la true (la_load1 hs rfl (by rfl)) rfl ?_) | (refine MC.part rfl rfl (fun h => absurd h (by first | decide | omega)) (fun _ => ?_)) | (refine MC.part rfl rfl (fun _ => ?_) (fun h => absurd (by first | decide | omega) h)) | (refine MC.cond rfl (fun h => absurd h (by first | decide | omega)) (fun _ => ?_)) | (refine MC.cond rfl (fun _ => ?_) (fun h => absurd (by first | decide | omega) h)))
    refine MC.loop (σ := Bs × Nat) (fun x => [(0, true, str (34 :: t)), (5, true, str x.1), (6, true, int ((x.2 : Nat) : Int))])
      (fun x w => behind [] 1 (readR t) = behind x.1 x.2 (readR ((34 :: t).drop x.2)) ∧ 1 ≤ x.2 ∧ x.2 ≤ (34 :: t).length ∧ x.1.length ≤ 4 * x.2 ∧ Sat F w) (fun x => (34 :: t).length - x.2) ([], 1) (by repeat (first | exact trivial | refine ⟨rfl, ?_⟩)) ⟨rfl, Nat.le_refl _, by rw [hlen]; omega, by simp, hs⟩ ?_
    rintro ⟨acc, p⟩ w ⟨heq, hp, hpl, hal, hs⟩
    have heq : behind [] 1 (readR t) = behind acc p (readR ((34 :: t).drop p)) := heq
    have hp : 1 ≤ p := hp
    have hpl : p ≤ (34 :: t).length := hpl
    have hal : acc.length ≤ 4 * p := hal
    have hdl := List.length_drop (i := p) (l := 34 :: t)
    rw [heq]
    dsimp only []
    by_cases hend : p < (34 :: t).length
    · obtain ⟨b', u, hu⟩ : ∃ b' u, (34 :: t).drop p = b' :: u := List.exists_cons_of_ne_nil (by intro e; rw [e] at hdl; simp at hdl; omega)
      have hget := getD_drop hu
      have bp : byteAt (34 :: t) ((p : Nat) : Int).toNat = (b'.toNat : Int) := by rw [← hget]; rfl
      have hb' := UInt8.toNat_lt b'
      have hul : (b' :: u).length = (34 :: t).length - p := by rw [← hu]; exact hdl
      rw [hu]
      by_cases hq : b' = 34
      · subst hq
        rw [readR_quote]
        repeat (first | (refine MC.run1 tab 1000 rfl rfl (by first | exact True.intro | (simp only [Conds, rng, Int.toNat_natCast, List.length_append, bytesV_length] <;> omega) | (simp [Conds, rng] <;> omega) | (simp only [Conds, rng, wrap_u8, wrap_u16, wrap_u32, wrap_u64] <;> omega)) ?_) | (refine MC.la true (la_load1 hs rfl (by rfl)) rfl ?_) | (refine MC.part rfl rfl (fun h => absurd h (by first | decide | omega)) (fun _ => ?_)) | (refine MC.part rfl rfl (fun _ => ?_) (fun h => absurd (by first | decide | omega) h)) | (refine MC.cond rfl (fun h => absurd h (by first | decide | omega)) (fun _ => ?_)) | (refine MC.cond rfl (fun _ => ?_) (fun h => absurd (by first | decide | omega) h)))
        rw [bp]
        repeat (first | (refine MC.run1 tab 1000 rfl rfl (by first | exact True.intro | (simp only [Conds, rng, Int.toNat_natCast, List.length_append, bytesV_length] <;> omega) | (simp [Conds, rng] <;> omega) | (simp only [Conds, rng, wrap_u8, wrap_u16, wrap_u32, wrap_u64] <;> omega)) ?_) | (refine MC.la true (la_load1 hs rfl (by rfl)) rfl ?_) | (refine MC.part rfl rfl (fun h => absurd h (by first | decide | omega)) (fun _ => ?_)) | (refine MC.part rfl rfl (fun _ => ?_) (fun h => absurd (by first | decide | omega) h)) | (refine MC.cond rfl (fun h => absurd h (by first | decide | omega)) (fun _ => ?_)) | (refine MC.cond rfl (fun _ => ?_) (fun h => absurd (by first | decide | omega) h)))
        refine MC.ret rfl ?_
        simp only [behind, List.append_nil]
        exact ⟨rfl, hs⟩
      · have hpc := piece_spec (b' :: u) (by simp) hs (by omega)
        repeat (first | (refine MC.run1 tab 1000 rfl rfl (by first | exact True.intro | (simp only [Conds, rng, Int.toNat_natCast, List.length_append, bytesV_length] <;> omega) | (simp [Conds, rng] <;> omega) | (simp only [Conds, rng, wrap_u8, wrap_u16, wrap_u32, wrap_u64] <;> omega)) ?_) | (refine MC.la true (la_load1 hs rfl (by rfl)) rfl ?_) | (refine MC.part rfl rfl (fun h => absurd h (by first | decide | omega)) (fun _ => ?_)) | (refine MC.part rfl rfl (fun _ => ?_) (fun h => absurd (by first | decide | omega) h)) | (refine MC.cond rfl (fun h => absurd h (by first | decide | omega)) (fun _ => ?_)) | (refine MC.cond rfl (fun _ => ?_) (fun h => absurd (by first | decide | omega) h)))
        rw [bp]
        refine MC.cond rfl (fun _ => ?_) (fun h => absurd (u8i (k := 34) (Decidable.not_not.1 h)) hq)
        repeat (first | (refine MC.run1 tab 1000 rfl rfl (by first | exact True.intro | (simp only [Conds, rng, Int.toNat_natCast, List.length_append, bytesV_length] <;> omega) | (simp [Conds, rng] <;> omega) | (simp only [Conds, rng, wrap_u8, wrap_u16, wrap_u32, wrap_u64] <;> omega)) ?_) | (refine MC.la true (la_load1 hs rfl (by rfl)) rfl ?_) | (refine MC.part rfl rfl (fun h => absurd h (by first | decide | omega)) (fun _ => ?_)) | (refine MC.part rfl rfl (fun _ => ?_) (fun h => absurd (by first | decide | omega) h)) | (refine MC.cond rfl (fun h => absurd h (by first | decide | omega)) (fun _ => ?_)) | (refine MC.cond rfl (fun _ => ?_) (fun h => absurd (by first | decide | omega) h)))
        have hu' : (34 :: t).drop ((p : Nat) : Int).toNat = b' :: u := hu
        rw [hu']
        cases hpl2 : pieceL (b' :: u) with
        | none =>
          rw [readR_bad hq hpl2]
          rw [hpl2] at hpc
          refine MC.does true (does_call rfl (hpc)) rfl ?_
          rintro _ w ⟨rfl, hs⟩
          repeat (first | (refine MC.run1 tab 1000 rfl rfl (by first | exact True.intro | (simp only [Conds, rng, Int.toNat_natCast, List.length_append, bytesV_length] <;> omega) | (simp [Conds, rng] <;> omega) | (simp only [Conds, rng, wrap_u8, wrap_u16, wrap_u32, wrap_u64] <;> omega)) ?_) | (refine MC.la true (la_load1 hs rfl (by rfl)) rfl ?_) | (refine MC.part rfl rfl (fun h => absurd h (by first | decide | omega)) (fun _ => ?_)) | (refine MC.part rfl rfl (fun _ => ?_) (fun h => absurd (by first | decide | omega) h)) | (refine MC.cond rfl (fun h => absurd h (by first | decide | omega)) (fun _ => ?_)) | (refine MC.cond rfl (fun _ => ?_) (fun h => absurd (by first | decide | omega) h)))
          refine MC.ret rfl ?_
          exact ⟨rfl, hs⟩
        | some x =>
          obtain ⟨c, k⟩ := x
          obtain ⟨hc, k1, k2⟩ := pieceL_bd hpl2
          have he4 := (enc_len hc).2
          have hch : charL c = encodeRune c := by rw [charL, if_pos hc]
          rw [hpl2] at hpc
          have hbs := behind_step acc p hq hpl2
          have hdd : (b' :: u).drop k = (34 :: t).drop (p + k) := by rw [← hu, List.drop_drop]
          rw [hdd] at hbs
          refine MC.does true (does_call rfl (hpc)) rfl ?_
          rintro _ w ⟨rfl, hs⟩
          dsimp only [pieceV]
          repeat (first | (refine MC.run1 tab 1000 rfl rfl (by first | exact True.intro | (simp only [Conds, rng, Int.toNat_natCast, List.length_append, bytesV_length] <;> omega) | (simp [Conds, rng] <;> omega) | (simp only [Conds, rng, wrap_u8, wrap_u16, wrap_u32, wrap_u64] <;> omega)) ?_) | (refine MC.la true (la_load1 hs rfl (by rfl)) rfl ?_) | (refine MC.part rfl rfl (fun h => absurd h (by first | decide | omega)) (fun _ => ?_)) | (refine MC.part rfl rfl (fun _ => ?_) (fun h => absurd (by first | decide | omega) h)) | (refine MC.cond rfl (fun h => absurd h (by first | decide | omega)) (fun _ => ?_)) | (refine MC.cond rfl (fun _ => ?_) (fun h => absurd (by first | decide | omega) h)))
          have hcs := char_spec c hs
          rw [hch] at hcs
          refine MC.does true (does_call rfl (hcs)) rfl ?_
          rintro _ w ⟨rfl, hs⟩
          repeat (first | (refine MC.run1 tab 1000 rfl rfl (by first | exact True.intro | (simp only [Conds, rng, Int.toNat_natCast, List.length_append, bytesV_length] <;> omega) | (simp [Conds, rng] <;> omega) | (simp only [Conds, rng, wrap_u8, wrap_u16, wrap_u32, wrap_u64] <;> omega)) ?_) | (refine MC.la true (la_load1 hs rfl (by rfl)) rfl ?_) | (refine MC.part rfl rfl (fun h => absurd h (by first | decide | omega)) (fun _ => ?_)) | (refine MC.part rfl rfl (fun _ => ?_) (fun h => absurd (by first | decide | omega) h)) | (refine MC.cond rfl (fun h => absurd h (by first | decide | omega)) (fun _ => ?_)) | (refine MC.cond rfl (fun _ => ?_) (fun h => absurd (by first | decide | omega) h)))
          refine MC.again (acc ++ encodeRune c, p + k) ⟨rfl, rfl, ?_, trivial⟩ ⟨hbs, ?_, ?_, ?_, hs⟩ ?_
          · exact congrArg (fun n => some (int n)) (by omega)
          · show 1 ≤ p + k; omega
          · show p + k ≤ _; omega
          · show (acc ++ encodeRune c).length ≤ 4 * (p + k); rw [List.length_append]; omega
          · show (34 :: t).length - (p + k) < (34 :: t).length - p; omega
    · have : p = (34 :: t).length := by omega
      subst this
      repeat (first | (refine MC.run1 tab 1000 rfl rfl (by first | exact True.intro | (simp only [Conds, rng, Int.toNat_natCast, List.length_append, bytesV_length] <;> omega) | (simp [Conds, rng] <;> omega) | (simp only [Conds, rng, wrap_u8, wrap_u16, wrap_u32, wrap_u64] <;> omega)) ?_) | (refine MC.la true (la_load1 hs rfl (by rfl)) rfl ?_) | (refine MC.part rfl rfl (fun h => absurd h (by first | decide | omega)) (fun _ => ?_)) | (refine MC.part rfl rfl (fun _ => ?_) (fun h => absurd (by first | decide | omega) h)) | (refine MC.cond rfl (fun h => absurd h (by first | decide | omega)) (fun _ => ?_)) | (refine MC.cond rfl (fun _ => ?_) (fun h => absurd (by first | decide | omega) h)))
      refine MC.ret rfl ?_
      rw [List.drop_length, readR_nil]
      exact ⟨rfl, hs⟩
end Go.Proofs.YtmloccinejhopaaDoor
