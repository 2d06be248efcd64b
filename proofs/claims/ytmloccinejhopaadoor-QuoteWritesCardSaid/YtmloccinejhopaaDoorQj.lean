/- Texts in quotes: the program's reading. -/
import Derived.Test.YtmloccinejhopaaDoorQi
set_option linter.unusedVariables false
set_option linter.unusedSimpArgs false
namespace Go.Proofs.YtmloccinejhopaaDoor
open Go Go.Sl Go.Qt Go.Lib
attribute [local irreducible] LooksAt

theorem read_step {F : List Assn} {w : World} {va : Value} {t : TypeId} {acc : Bs} {c : Int} {n : Nat} (hn : n = acc.length + (encodeRune c).length)
    (hs : Sat (sl va t 1 n (bytesV acc ++ bytesV (encodeRune c)) :: F) w) : Sat (sl va t 1 (acc ++ encodeRune c).length (bytesV (acc ++ encodeRune c)) :: F) w := by
  rw [bytesV_append, List.length_append, ← hn]
  exact hs
theorem read_spec {F : List Assn} {w : World} (s : Bs) (hs : Sat F w) (hT : Tabs F) (hl : s.length ≤ 140737488355328) :
    Ret Tryd.prog 14 [str s] w fun v w' => v = readV (readL s) ∧ Sat F w' := by
  refine Ret.enter [(true, str s)] _ Tryd.func14 rfl Tryd.ntmps14 rfl ?_
  cases s with
  | nil =>
    repeat (first | (refine MC.run1 tab 1000 rfl rfl (by first | exact True.intro | (simp only [Conds, rng, Int.toNat_natCast, List.length_append, bytesV_length] <;> omega) | (simp [Conds, rng] <;> omega) | (simp only [Conds, rng, wrap_u8, wrap_u16, wrap_u32, wrap_u64] <;> omega)) ?_) | (refine MC.la true (la_load1 hs rfl (by rfl)) rfl ?_) | (refine MC.part rfl rfl (fun h => absurd h (by first | decide | omega)) (fun _ => ?_)) | (refine MC.part rfl rfl (fun _ => ?_) (fun h => absurd (by first | decide | omega) h)) | (refine MC.cond rfl (fun h => absurd h (by first | decide | omega)) (fun _ => ?_)) | (refine MC.cond rfl (fun _ => ?_) (fun h => absurd (by first | decide | omega) h)))
    refine MC.ret rfl ?_
    exact ⟨rfl, hs⟩
  | cons b t =>
    have hb := UInt8.toNat_lt b
    have hlen : (b :: t).length = t.length + 1 := rfl
    have b0 : byteAt (b :: t) (0 : Int).toNat = (b.toNat : Int) := rfl
    repeat (first | (refine MC.run1 tab 1000 rfl rfl (by first | exact True.intro | (simp only [Conds, rng, Int.toNat_natCast, List.length_append, bytesV_length] <;> omega) | (simp [Conds, rng] <;> omega) | (simp only [Conds, rng, wrap_u8, wrap_u16, wrap_u32, wrap_u64] <;> omega)) ?_) | (refine MC.la true (la_load1 hs rfl (by rfl)) rfl ?_) | (refine MC.part rfl rfl (fun h => absurd h (by first | decide | omega)) (fun _ => ?_)) | (refine MC.part rfl rfl (fun _ => ?_) (fun h => absurd (by first | decide | omega) h)) | (refine MC.cond rfl (fun h => absurd h (by first | decide | omega)) (fun _ => ?_)) | (refine MC.cond rfl (fun _ => ?_) (fun h => absurd (by first | decide | omega) h)))
    refine MC.part rfl rfl (fun h => absurd h (List.cons_ne_nil _ _)) (fun _ => ?_)
    repeat (first | (refine MC.run1 tab 1000 rfl rfl (by first | exact True.intro | (simp only [Conds, rng, Int.toNat_natCast, List.length_append, bytesV_length] <;> omega) | (simp [Conds, rng] <;> omega) | (simp only [Conds, rng, wrap_u8, wrap_u16, wrap_u32, wrap_u64] <;> omega)) ?_) | (refine MC.la true (la_load1 hs rfl (by rfl)) rfl ?_) | (refine MC.part rfl rfl (fun h => absurd h (by first | decide | omega)) (fun _ => ?_)) | (refine MC.part rfl rfl (fun _ => ?_) (fun h => absurd (by first | decide | omega) h)) | (refine MC.cond rfl (fun h => absurd h (by first | decide | omega)) (fun _ => ?_)) | (refine MC.cond rfl (fun _ => ?_) (fun h => absurd (by first | decide | omega) h)))
    rw [b0]
    refine MC.cond rfl (fun h => ?_) (fun h => ?_)
    · rw [readL_no (fun e => h (by rw [e]; rfl))]
      repeat (first | (refine MC.run1 tab 1000 rfl rfl (by first | exact True.intro | (simp only [Conds, rng, Int.toNat_natCast, List.length_append, bytesV_length] <;> omega) | (simp [Conds, rng] <;> omega) | (simp only [Conds, rng, wrap_u8, wrap_u16, wrap_u32, wrap_u64] <;> omega)) ?_) | (refine MC.la true (la_load1 hs rfl (by rfl)) rfl ?_) | (refine MC.part rfl rfl (fun h => absurd h (by first | decide | omega)) (fun _ => ?_)) | (refine MC.part rfl rfl (fun _ => ?_) (fun h => absurd (by first | decide | omega) h)) | (refine MC.cond rfl (fun h => absurd h (by first | decide | omega)) (fun _ => ?_)) | (refine MC.cond rfl (fun _ => ?_) (fun h => absurd (by first | decide | omega) h)))
      refine MC.ret rfl ?_
      exact ⟨rfl, hs⟩
    have h := u8i (k := 34) (Decidable.not_not.1 h)
    subst h
    rw [readL_cons]
    have hs0 := hs.sl_nil 5 1
    clear hs
    have hs := hs0
    clear hs0
    repeat (first | (refine MC.run1 tab 1000 rfl rfl (by first | exact True.intro | (simp only [Conds, rng, Int.toNat_natCast, List.length_append, bytesV_length] <;> omega) | (simp [Conds, rng] <;> omega) | (simp only [Conds, rng, wrap_u8, wrap_u16, wrap_u32, wrap_u64] <;> omega)) ?_) | (refine MC.la true (la_load1 hs rfl (by rfl)) rfl ?_) | (refine MC.part rfl rfl (fun h => absurd h (by first | decide | omega)) (fun _ => ?_)) | (refine MC.part rfl rfl (fun _ => ?_) (fun h => absurd (by first | decide | omega) h)) | (refine MC.cond rfl (fun h => absurd h (by first | decide | omega)) (fun _ => ?_)) | (refine MC.cond rfl (fun _ => ?_) (fun h => absurd (by first | decide | omega) h)))
    refine MC.loop (σ := Bs × Nat × Value) (fun x => [(0, true, str (34 :: t)), (5, true, x.2.2), (6, true, int ((x.2.1 : Nat) : Int))])
      (fun x w => behind [] 1 (readR t) = behind x.1 x.2.1 (readR ((34 :: t).drop x.2.1)) ∧ 1 ≤ x.2.1 ∧ x.2.1 ≤ (34 :: t).length ∧ x.1.length ≤ x.2.1 ∧ Sat (sl x.2.2 5 1 x.1.length (bytesV x.1) :: F) w) (fun x => (34 :: t).length - x.2.1) ([], 1, .slice none 0 0) (by repeat (first | exact trivial | refine ⟨rfl, ?_⟩)) ⟨rfl, Nat.le_refl _, by show 1 ≤ (34 :: t).length; rw [hlen]; omega, by simp, hs⟩ ?_
    rintro ⟨acc, p, v⟩ w hxs
    replace hxs : behind [] 1 (readR t) = behind acc p (readR ((34 :: t).drop p)) ∧ 1 ≤ p ∧ p ≤ (34 :: t).length ∧ acc.length ≤ p ∧ Sat (sl v 5 1 acc.length (bytesV acc) :: F) w := hxs
    clear hs
    obtain ⟨heq, hp, hpl, hal, hs⟩ := hxs
    obtain ⟨_, q, cp, rfl, hcp⟩ := hs.sl_len
    have hdl := List.length_drop (i := p) (l := 34 :: t)
    rw [heq]
    dsimp only []
    by_cases hend : p < (34 :: t).length
    · obtain ⟨b', u, hu⟩ : ∃ b' u, (34 :: t).drop p = b' :: u := List.exists_cons_of_ne_nil (by intro e; rw [e] at hdl; simp at hdl; omega)
      have hget := getD_drop hu
      have bp : byteAt (34 :: t) ((p : Nat) : Int).toNat = (b'.toNat : Int) := by rw [← hget]; rfl
      have hb' := UInt8.toNat_lt b'
      have hul : (b' :: u).length = (34 :: t).length - p := by rw [← hu]; exact hdl
      have hul1 : (b' :: u).length = u.length + 1 := rfl
      rw [hu]
      repeat (first | (refine MC.run1 tab 1000 rfl rfl (by first | exact True.intro | (simp only [Conds, rng, Int.toNat_natCast, List.length_append, bytesV_length] <;> omega) | (simp [Conds, rng] <;> omega) | (simp only [Conds, rng, wrap_u8, wrap_u16, wrap_u32, wrap_u64] <;> omega)) ?_) | (refine MC.la true (la_load1 hs rfl (by rfl)) rfl ?_) | (refine MC.part rfl rfl (fun h => absurd h (by first | decide | omega)) (fun _ => ?_)) | (refine MC.part rfl rfl (fun _ => ?_) (fun h => absurd (by first | decide | omega) h)) | (refine MC.cond rfl (fun h => absurd h (by first | decide | omega)) (fun _ => ?_)) | (refine MC.cond rfl (fun _ => ?_) (fun h => absurd (by first | decide | omega) h)))
      rw [bp]
      by_cases hq : b' = 34
      · subst hq
        rw [readR_quote]
        repeat (first | (refine MC.run1 tab 1000 rfl rfl (by first | exact True.intro | (simp only [Conds, rng, Int.toNat_natCast, List.length_append, bytesV_length] <;> omega) | (simp [Conds, rng] <;> omega) | (simp only [Conds, rng, wrap_u8, wrap_u16, wrap_u32, wrap_u64] <;> omega)) ?_) | (refine MC.la true (la_load1 hs rfl (by rfl)) rfl ?_) | (refine MC.part rfl rfl (fun h => absurd h (by first | decide | omega)) (fun _ => ?_)) | (refine MC.part rfl rfl (fun _ => ?_) (fun h => absurd (by first | decide | omega) h)) | (refine MC.cond rfl (fun h => absurd h (by first | decide | omega)) (fun _ => ?_)) | (refine MC.cond rfl (fun _ => ?_) (fun h => absurd (by first | decide | omega) h)))
        refine MC.la true (la_tostr rfl (RdS.of_sl hs) hs) rfl ?_
        repeat (first | (refine MC.run1 tab 1000 rfl rfl (by first | exact True.intro | (simp only [Conds, rng, Int.toNat_natCast, List.length_append, bytesV_length] <;> omega) | (simp [Conds, rng] <;> omega) | (simp only [Conds, rng, wrap_u8, wrap_u16, wrap_u32, wrap_u64] <;> omega)) ?_) | (refine MC.la true (la_load1 hs rfl (by rfl)) rfl ?_) | (refine MC.part rfl rfl (fun h => absurd h (by first | decide | omega)) (fun _ => ?_)) | (refine MC.part rfl rfl (fun _ => ?_) (fun h => absurd (by first | decide | omega) h)) | (refine MC.cond rfl (fun h => absurd h (by first | decide | omega)) (fun _ => ?_)) | (refine MC.cond rfl (fun _ => ?_) (fun h => absurd (by first | decide | omega) h)))
        refine MC.ret rfl ?_
        simp only [behind, List.append_nil]
        exact ⟨rfl, hs.tail⟩
      have hq' : (b'.toNat : Int) ≠ 34 := fun e => hq (u8i (k := 34) e)
      by_cases h32 : b'.toNat < 32
      · have hpn : pieceL (b' :: u) = none := by simp only [pieceL, if_pos (Or.inl h32 : b'.toNat < 32 ∨ b' = 34)]
        rw [readR_bad hq hpn]
        repeat (first | (refine MC.run1 tab 1000 rfl rfl (by first | exact True.intro | (simp only [Conds, rng, Int.toNat_natCast, List.length_append, bytesV_length] <;> omega) | (simp [Conds, rng] <;> omega) | (simp only [Conds, rng, wrap_u8, wrap_u16, wrap_u32, wrap_u64] <;> omega)) ?_) | (refine MC.la true (la_load1 hs rfl (by rfl)) rfl ?_) | (refine MC.part rfl rfl (fun h => absurd h (by first | decide | omega)) (fun _ => ?_)) | (refine MC.part rfl rfl (fun _ => ?_) (fun h => absurd (by first | decide | omega) h)) | (refine MC.cond rfl (fun h => absurd h (by first | decide | omega)) (fun _ => ?_)) | (refine MC.cond rfl (fun _ => ?_) (fun h => absurd (by first | decide | omega) h)))
        refine MC.ret rfl ?_
        exact ⟨rfl, hs.tail⟩
      have hor : ¬ (b'.toNat < 32 ∨ b' = 34) := by rintro (h | h); exact h32 h; exact hq h
      by_cases h92 : b' = 92
      · subst h92
        have hpe : pieceL (92 :: u) = match escU u with | none => none | some (r, n) => some (r, n + 1) := rfl
        have hdu : (34 :: t).drop (((p : Nat) : Int) + 1).toNat = u := by
          have : (((p : Nat) : Int) + 1).toNat = p + 1 := by omega
          rw [this, ← List.drop_drop, hu]; rfl
        have hes := escape_spec u hs (by omega)
        repeat (first | (refine MC.run1 tab 1000 rfl rfl (by first | exact True.intro | (simp only [Conds, rng, Int.toNat_natCast, List.length_append, bytesV_length] <;> omega) | (simp [Conds, rng] <;> omega) | (simp only [Conds, rng, wrap_u8, wrap_u16, wrap_u32, wrap_u64] <;> omega)) ?_) | (refine MC.la true (la_load1 hs rfl (by rfl)) rfl ?_) | (refine MC.part rfl rfl (fun h => absurd h (by first | decide | omega)) (fun _ => ?_)) | (refine MC.part rfl rfl (fun _ => ?_) (fun h => absurd (by first | decide | omega) h)) | (refine MC.cond rfl (fun h => absurd h (by first | decide | omega)) (fun _ => ?_)) | (refine MC.cond rfl (fun _ => ?_) (fun h => absurd (by first | decide | omega) h)))
        rw [hdu]
        cases he : escU u with
        | none =>
          rw [he] at hes hpe
          rw [readR_bad hq hpe]
          refine MC.does true (does_call rfl (hes)) rfl ?_
          rintro _ w ⟨⟨_, _, rfl⟩, rfl⟩
          repeat (first | (refine MC.run1 tab 1000 rfl rfl (by first | exact True.intro | (simp only [Conds, rng, Int.toNat_natCast, List.length_append, bytesV_length] <;> omega) | (simp [Conds, rng] <;> omega) | (simp only [Conds, rng, wrap_u8, wrap_u16, wrap_u32, wrap_u64] <;> omega)) ?_) | (refine MC.la true (la_load1 hs rfl (by rfl)) rfl ?_) | (refine MC.part rfl rfl (fun h => absurd h (by first | decide | omega)) (fun _ => ?_)) | (refine MC.part rfl rfl (fun _ => ?_) (fun h => absurd (by first | decide | omega) h)) | (refine MC.cond rfl (fun h => absurd h (by first | decide | omega)) (fun _ => ?_)) | (refine MC.cond rfl (fun _ => ?_) (fun h => absurd (by first | decide | omega) h)))
          refine MC.ret rfl ?_
          exact ⟨rfl, hs.tail⟩
        | some x =>
          obtain ⟨c, n⟩ := x
          rw [he] at hes hpe
          dsimp only [] at hpe
          obtain ⟨hc, k1, k2⟩ := pieceL_bd hpe
          have he4 := (piece_len hpe).2
          have hbs := behind_step acc p hq hpe
          have hdd : (92 :: u).drop (n + 1) = (34 :: t).drop (p + (n + 1)) := by rw [← hu, List.drop_drop]
          rw [hdd] at hbs
          refine MC.does true (does_call rfl (hes)) rfl ?_
          rintro _ w ⟨rfl, rfl⟩
          repeat (first | (refine MC.run1 tab 1000 rfl rfl (by first | exact True.intro | (simp only [Conds, rng, Int.toNat_natCast, List.length_append, bytesV_length] <;> omega) | (simp [Conds, rng] <;> omega) | (simp only [Conds, rng, wrap_u8, wrap_u16, wrap_u32, wrap_u64] <;> omega)) ?_) | (refine MC.la true (la_load1 hs rfl (by rfl)) rfl ?_) | (refine MC.part rfl rfl (fun h => absurd h (by first | decide | omega)) (fun _ => ?_)) | (refine MC.part rfl rfl (fun _ => ?_) (fun h => absurd (by first | decide | omega) h)) | (refine MC.cond rfl (fun h => absurd h (by first | decide | omega)) (fun _ => ?_)) | (refine MC.cond rfl (fun _ => ?_) (fun h => absurd (by first | decide | omega) h)))
          refine MC.does true (does_call rfl (appendRune_spec hs hc (by omega))) rfl ?_
          intro va w hs
          repeat (first | (refine MC.run1 tab 1000 rfl rfl (by first | exact True.intro | (simp only [Conds, rng, Int.toNat_natCast, List.length_append, bytesV_length] <;> omega) | (simp [Conds, rng] <;> omega) | (simp only [Conds, rng, wrap_u8, wrap_u16, wrap_u32, wrap_u64] <;> omega)) ?_) | (refine MC.la true (la_load1 hs rfl (by rfl)) rfl ?_) | (refine MC.part rfl rfl (fun h => absurd h (by first | decide | omega)) (fun _ => ?_)) | (refine MC.part rfl rfl (fun _ => ?_) (fun h => absurd (by first | decide | omega) h)) | (refine MC.cond rfl (fun h => absurd h (by first | decide | omega)) (fun _ => ?_)) | (refine MC.cond rfl (fun _ => ?_) (fun h => absurd (by first | decide | omega) h)))
          refine MC.again (acc ++ encodeRune c, p + (n + 1), va) ⟨rfl, rfl, ?_, trivial⟩ ⟨hbs, ?_, ?_, ?_, hs⟩ ?_
          · exact congrArg (fun n => some (int n)) (by show _ = ((p + (n + 1) : Nat) : Int); omega)
          · show 1 ≤ p + (n + 1); omega
          · show p + (n + 1) ≤ (34 :: t).length; omega
          · show (acc ++ encodeRune c).length ≤ (p + (n + 1)); rw [List.length_append]; omega
          · show (34 :: t).length - (p + (n + 1)) < (34 :: t).length - p; omega
      · have h92' : (b'.toNat : Int) ≠ 92 := fun e => h92 (u8i (k := 92) e)
        have hpe : pieceL (b' :: u) = if okD (b' :: u) then some (((decodeL (b' :: u)).1 : Int), (decodeL (b' :: u)).2) else none := by
          simp only [pieceL, if_neg hor, if_neg h92]
        have hdc := decode_spec (b' :: u) hs hT.up (by simp)
        have hdu : (34 :: t).drop ((p : Nat) : Int).toNat = b' :: u := hu
        repeat (first | (refine MC.run1 tab 1000 rfl rfl (by first | exact True.intro | (simp only [Conds, rng, Int.toNat_natCast, List.length_append, bytesV_length] <;> omega) | (simp [Conds, rng] <;> omega) | (simp only [Conds, rng, wrap_u8, wrap_u16, wrap_u32, wrap_u64] <;> omega)) ?_) | (refine MC.la true (la_load1 hs rfl (by rfl)) rfl ?_) | (refine MC.part rfl rfl (fun h => absurd h (by first | decide | omega)) (fun _ => ?_)) | (refine MC.part rfl rfl (fun _ => ?_) (fun h => absurd (by first | decide | omega) h)) | (refine MC.cond rfl (fun h => absurd h (by first | decide | omega)) (fun _ => ?_)) | (refine MC.cond rfl (fun _ => ?_) (fun h => absurd (by first | decide | omega) h)))
        rw [hdu]
        by_cases ho : okD (b' :: u)
        · obtain ⟨k1, k2, k3, k4⟩ := okD_char ho
          have ho2 := ho.2
          rw [if_pos ho] at hpe
          have he4 := (enc_len k1).2
          have hbs := behind_step acc p hq hpe
          have hdd : (b' :: u).drop (decodeL (b' :: u)).2 = (34 :: t).drop (p + (decodeL (b' :: u)).2) := by rw [← hu, List.drop_drop]
          rw [hdd] at hbs
          obtain ⟨j0, j1, j2⟩ := id k1
          clear hpe hdd
          generalize (decodeL (b' :: u)).1 = c at *
          generalize (decodeL (b' :: u)).2 = k at *
          have hlen2 : (encodeRune (c : Int)).length = k := by rw [k2, List.length_take]; omega
          have hsl : ((34 :: t).take (((p : Nat) : Int) + ((k : Nat) : Int)).toNat).drop ((p : Nat) : Int).toNat = encodeRune (c : Int) := by
            have e : (((p : Nat) : Int) + ((k : Nat) : Int)).toNat = p + k := by omega
            have e' : ((p : Nat) : Int).toNat = p := rfl
            rw [e, e', List.drop_take, hu, k2]; congr 1; omega
          refine MC.does true (does_call rfl (hdc)) rfl ?_
          rintro _ w ⟨rfl, hs⟩
          by_cases hc65 : c = 65533
          · have hk2 : 2 ≤ k := by
              rcases Nat.lt_or_ge k 2 with h | h
              · exact absurd ⟨hc65, by omega⟩ ho2
              · exact h
            repeat (first | (refine MC.run1 tab 1000 rfl rfl (by first | exact True.intro | (simp only [Conds, rng, Int.toNat_natCast, List.length_append, bytesV_length] <;> omega) | (simp [Conds, rng] <;> omega) | (simp only [Conds, rng, wrap_u8, wrap_u16, wrap_u32, wrap_u64] <;> omega)) ?_) | (refine MC.la true (la_load1 hs rfl (by rfl)) rfl ?_) | (refine MC.part rfl rfl (fun h => absurd h (by first | decide | omega)) (fun _ => ?_)) | (refine MC.part rfl rfl (fun _ => ?_) (fun h => absurd (by first | decide | omega) h)) | (refine MC.cond rfl (fun h => absurd h (by first | decide | omega)) (fun _ => ?_)) | (refine MC.cond rfl (fun _ => ?_) (fun h => absurd (by first | decide | omega) h)))
            rw [hsl]
            refine MC.does true (does_append hs rfl rfl (src_str (encodeRune (c : Int))) (by omega) (by omega)) rfl ?_
            intro va w hs
            have hs := read_step rfl hs
            repeat (first | (refine MC.run1 tab 1000 rfl rfl (by first | exact True.intro | (simp only [Conds, rng, Int.toNat_natCast, List.length_append, bytesV_length] <;> omega) | (simp [Conds, rng] <;> omega) | (simp only [Conds, rng, wrap_u8, wrap_u16, wrap_u32, wrap_u64] <;> omega)) ?_) | (refine MC.la true (la_load1 hs rfl (by rfl)) rfl ?_) | (refine MC.part rfl rfl (fun h => absurd h (by first | decide | omega)) (fun _ => ?_)) | (refine MC.part rfl rfl (fun _ => ?_) (fun h => absurd (by first | decide | omega) h)) | (refine MC.cond rfl (fun h => absurd h (by first | decide | omega)) (fun _ => ?_)) | (refine MC.cond rfl (fun _ => ?_) (fun h => absurd (by first | decide | omega) h)))
            refine MC.again (acc ++ encodeRune (c : Int), p + k, va) ⟨rfl, rfl, ?_, trivial⟩ ⟨hbs, ?_, ?_, ?_, hs⟩ ?_
            · exact congrArg (fun n => some (int n)) (by show _ = ((p + k : Nat) : Int); omega)
            · show 1 ≤ p + k; omega
            · show p + k ≤ (34 :: t).length; omega
            · show (acc ++ encodeRune (c : Int)).length ≤ (p + k); rw [List.length_append]; omega
            · show (34 :: t).length - (p + k) < (34 :: t).length - p; omega
          · have hc65 : (c : Int) ≠ 65533 := by omega
            repeat (first | (refine MC.run1 tab 1000 rfl rfl (by first | exact True.intro | (simp only [Conds, rng, Int.toNat_natCast, List.length_append, bytesV_length] <;> omega) | (simp [Conds, rng] <;> omega) | (simp only [Conds, rng, wrap_u8, wrap_u16, wrap_u32, wrap_u64] <;> omega)) ?_) | (refine MC.la true (la_load1 hs rfl (by rfl)) rfl ?_) | (refine MC.part rfl rfl (fun h => absurd h (by first | decide | omega)) (fun _ => ?_)) | (refine MC.part rfl rfl (fun _ => ?_) (fun h => absurd (by first | decide | omega) h)) | (refine MC.cond rfl (fun h => absurd h (by first | decide | omega)) (fun _ => ?_)) | (refine MC.cond rfl (fun _ => ?_) (fun h => absurd (by first | decide | omega) h)))
            rw [hsl]
            refine MC.does true (does_append hs rfl rfl (src_str (encodeRune (c : Int))) (by omega) (by omega)) rfl ?_
            intro va w hs
            have hs := read_step rfl hs
            repeat (first | (refine MC.run1 tab 1000 rfl rfl (by first | exact True.intro | (simp only [Conds, rng, Int.toNat_natCast, List.length_append, bytesV_length] <;> omega) | (simp [Conds, rng] <;> omega) | (simp only [Conds, rng, wrap_u8, wrap_u16, wrap_u32, wrap_u64] <;> omega)) ?_) | (refine MC.la true (la_load1 hs rfl (by rfl)) rfl ?_) | (refine MC.part rfl rfl (fun h => absurd h (by first | decide | omega)) (fun _ => ?_)) | (refine MC.part rfl rfl (fun _ => ?_) (fun h => absurd (by first | decide | omega) h)) | (refine MC.cond rfl (fun h => absurd h (by first | decide | omega)) (fun _ => ?_)) | (refine MC.cond rfl (fun _ => ?_) (fun h => absurd (by first | decide | omega) h)))
            refine MC.again (acc ++ encodeRune (c : Int), p + k, va) ⟨rfl, rfl, ?_, trivial⟩ ⟨hbs, ?_, ?_, ?_, hs⟩ ?_
            · exact congrArg (fun n => some (int n)) (by show _ = ((p + k : Nat) : Int); omega)
            · show 1 ≤ p + k; omega
            · show p + k ≤ (34 :: t).length; omega
            · show (acc ++ encodeRune (c : Int)).length ≤ (p + k); rw [List.length_append]; omega
            · show (34 :: t).length - (p + k) < (34 :: t).length - p; omega
        · have hb : (decodeL (b' :: u)).1 = 65533 ∧ (decodeL (b' :: u)).2 = 1 := Decidable.not_not.1 fun h => ho ⟨by simp, h⟩
          rw [if_neg ho] at hpe
          rw [hb.1, hb.2] at hdc
          rw [readR_bad hq hpe]
          refine MC.does true (does_call rfl (hdc)) rfl ?_
          rintro _ w ⟨rfl, hs⟩
          repeat (first | (refine MC.run1 tab 1000 rfl rfl (by first | exact True.intro | (simp only [Conds, rng, Int.toNat_natCast, List.length_append, bytesV_length] <;> omega) | (simp [Conds, rng] <;> omega) | (simp only [Conds, rng, wrap_u8, wrap_u16, wrap_u32, wrap_u64] <;> omega)) ?_) | (refine MC.la true (la_load1 hs rfl (by rfl)) rfl ?_) | (refine MC.part rfl rfl (fun h => absurd h (by first | decide | omega)) (fun _ => ?_)) | (refine MC.part rfl rfl (fun _ => ?_) (fun h => absurd (by first | decide | omega) h)) | (refine MC.cond rfl (fun h => absurd h (by first | decide | omega)) (fun _ => ?_)) | (refine MC.cond rfl (fun _ => ?_) (fun h => absurd (by first | decide | omega) h)))
          refine MC.ret rfl ?_
          exact ⟨rfl, hs.tail⟩
    · have : p = (34 :: t).length := by omega
      subst this
      rw [List.drop_length, readR_nil]
      repeat (first | (refine MC.run1 tab 1000 rfl rfl (by first | exact True.intro | (simp only [Conds, rng, Int.toNat_natCast, List.length_append, bytesV_length] <;> omega) | (simp [Conds, rng] <;> omega) | (simp only [Conds, rng, wrap_u8, wrap_u16, wrap_u32, wrap_u64] <;> omega)) ?_) | (refine MC.la true (la_load1 hs rfl (by rfl)) rfl ?_) | (refine MC.part rfl rfl (fun h => absurd h (by first | decide | omega)) (fun _ => ?_)) | (refine MC.part rfl rfl (fun _ => ?_) (fun h => absurd (by first | decide | omega) h)) | (refine MC.cond rfl (fun h => absurd h (by first | decide | omega)) (fun _ => ?_)) | (refine MC.cond rfl (fun _ => ?_) (fun h => absurd (by first | decide | omega) h)))
      refine MC.ret rfl ?_
      exact ⟨rfl, hs.tail⟩
end Go.Proofs.YtmloccinejhopaaDoor
