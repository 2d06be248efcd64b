/- Texts in quotes: how long what is read and written is. No program stands here. -/
import Derived.Test.YtmloccinejhopaaDoorQq
set_option linter.unusedVariables false
set_option linter.unusedSimpArgs false
namespace Go.Qt
open Go Go.Lib

theorem esc_len {c : Int} (h : isChar c) : (escL c).length ≤ 6 := by
  rcases esc_cases h with ⟨x, e, _⟩ | ⟨n, _, _, e⟩ | ⟨_, _, _, e⟩
  · rw [e]; simp
  · rw [e]; simp
  · rw [e]
    rcases enc_cases h with ⟨a, e⟩ | ⟨a, b, e⟩ | ⟨a, b, e⟩ | ⟨a, e⟩ <;> rw [e] <;> simp
theorem uniU_n {u : Bs} {c : Int} {n : Nat} (h : uniU u = some (c, n)) : 4 ≤ n := by
  unfold uniU at h
  cases h4 : hex4 u with
  | none => rw [h4] at h; cases h
  | some a =>
    rw [h4] at h
    dsimp only at h
    split at h
    · cases h
    · split at h
      · cases h; omega
      · split at h
        · cases h
        · cases h5 : hex4 (u.drop 6) with
          | none => rw [h5] at h; cases h
          | some b =>
            rw [h5] at h
            dsimp only at h
            split at h
            · cases h
            · cases h; omega
theorem escU_len {u : Bs} {c : Int} {n : Nat} (h : escU u = some (c, n)) : (escL c).length ≤ n + 1 ∧ (encodeRune c).length ≤ n + 1 := by
  cases u with
  | nil => cases h
  | cons x u =>
    have hc := (escU_bd h).1
    simp only [escU] at h
    split at h
    · rename_i hx
      cases h
      rcases hx with rfl | rfl | rfl <;> decide
    · repeat' split at h
      all_goals first
        | (cases h; decide)
        | (cases h; done)
        | skip
      rename_i r n' e
      cases h
      have := uniU_n e
      have h1 := esc_len hc
      have h2 := (enc_len hc).2
      omega
theorem piece_len {r : Bs} {c : Int} {k : Nat} (h : pieceL r = some (c, k)) : (escL c).length ≤ k ∧ (encodeRune c).length ≤ k := by
  cases r with
  | nil => cases h
  | cons b t =>
    simp only [pieceL] at h
    split at h
    · cases h
    · rename_i hb
      split at h
      · split at h
        · cases h
        · rename_i r n e
          cases h
          exact escU_len e
      · rename_i h92
        split at h
        · rename_i ho
          cases h
          obtain ⟨h1, h2, h3, h4⟩ := okD_char ho
          have hl : (encodeRune ((decodeL (b :: t)).1 : Int)).length = (decodeL (b :: t)).2 := by rw [h2, List.length_take]; omega
          obtain ⟨b', t', e', hor⟩ := enc_head h1
          have hbb : b' = b := by
            rw [e'] at h2
            have : (decodeL (b :: t)).2 = ((decodeL (b :: t)).2 - 1) + 1 := by omega
            rw [this, List.take_succ_cons] at h2
            injection h2
          rw [hbb] at hor
          refine ⟨?_, by omega⟩
          have hne34 : ((decodeL (b :: t)).1 : Int) ≠ 34 := by
            intro e
            rcases hor with ⟨_, h⟩ | ⟨h, _⟩
            · exact hb (.inr (UInt8.toNat_inj.1 (by rw [e] at h; show b.toNat = 34; omega)))
            · omega
          have hne92 : ((decodeL (b :: t)).1 : Int) ≠ 92 := by
            intro e
            rcases hor with ⟨_, h⟩ | ⟨h, _⟩
            · exact h92 (UInt8.toNat_inj.1 (by rw [e] at h; show b.toNat = 92; omega))
            · omega
          have hge : 32 ≤ ((decodeL (b :: t)).1 : Int) := by
            rcases hor with ⟨_, h⟩ | ⟨h, _⟩
            · rcases Nat.lt_or_ge b.toNat 32 with h' | h'
              · exact absurd (.inl h') hb
              · omega
            · omega
          have : escL ((decodeL (b :: t)).1 : Int) = encodeRune ((decodeL (b :: t)).1 : Int) := by
            unfold escL
            rw [if_neg (by rintro (h | h); exact hne34 h; exact hne92 h), if_neg (by omega), if_neg (by omega), if_neg (by omega), if_neg (by omega), if_neg (by omega), if_neg (by omega)]
          rw [this, hl]
          exact Nat.le_refl _
        · cases h
theorem enc_esc {c : Int} (h : isChar c) : (encodeRune c).length ≤ (escL c).length := by
  obtain ⟨b, u, _, _, e⟩ := piece_esc h []
  exact (piece_len e).2
theorem enc_wr : ∀ {rs : List Int}, chars rs → (enc rs).length ≤ (wr rs).length
  | [], _ => by simp [wr, enc]
  | c :: rs, h => by
    have h1 := enc_wr (rs := rs) fun x hx => h x (List.mem_cons_of_mem _ hx)
    have h2 := enc_esc (h c List.mem_cons_self)
    have e1 : wr (c :: rs) = escL c ++ wr rs := rfl
    have e2 : enc (c :: rs) = encodeRune c ++ enc rs := rfl
    rw [e1, e2, List.length_append, List.length_append]; omega
theorem wr_len : ∀ {rs : List Int}, chars rs → (wr rs).length ≤ 6 * (enc rs).length
  | [], _ => by simp [wr, enc]
  | c :: rs, h => by
    have h1 := wr_len (rs := rs) fun x hx => h x (List.mem_cons_of_mem _ hx)
    have h2 := esc_len (h c List.mem_cons_self)
    obtain ⟨b, t, e, _⟩ := enc_head (h c List.mem_cons_self)
    have e1 : wr (c :: rs) = escL c ++ wr rs := rfl
    have e2 : enc (c :: rs) = encodeRune c ++ enc rs := rfl
    rw [e1, e2, e, List.length_append, List.length_append, List.length_cons]; omega
theorem wr_append (a b : List Int) : wr (a ++ b) = wr a ++ wr b := by simp [wr]
theorem writeL_len (rs : List Int) : (writeL rs).length = (wr rs).length + 2 := by simp [writeL]
theorem readF_wr : ∀ (n : Nat) (r x : Bs) (m : Nat), readF n r = some (x, m) → ∃ rs, chars rs ∧ x = enc rs ∧ (wr rs).length + 1 ≤ m
  | 0, _, _, _, h => by cases h
  | _ + 1, [], _, _, h => by cases h
  | n + 1, b :: t, x, m, h => by
    simp only [readF] at h
    split at h
    · cases h
      exact ⟨[], fun _ h => absurd h (by simp), rfl, by simp [wr]⟩
    · cases hp : pieceL (b :: t) with
      | none => rw [hp] at h; cases h
      | some y =>
        obtain ⟨c, k⟩ := y
        rw [hp] at h
        dsimp only at h
        cases hr : readF n ((b :: t).drop k) with
        | none => rw [hr] at h; cases h
        | some z =>
          obtain ⟨x', m'⟩ := z
          rw [hr] at h
          cases h
          obtain ⟨hc, _, _⟩ := pieceL_bd hp
          have hk := (piece_len hp).1
          obtain ⟨rs, h4, h5, h6⟩ := readF_wr n _ _ _ hr
          refine ⟨c :: rs, fun y hy => ?_, by rw [h5]; rfl, ?_⟩
          · rcases List.mem_cons.1 hy with rfl | hy
            · exact hc
            · exact h4 y hy
          · have e1 : wr (c :: rs) = escL c ++ wr rs := rfl
            rw [e1, List.length_append]; omega
theorem readL_wr {s x : Bs} {n : Nat} (h : readL s = some (x, n)) : ∃ rs, chars rs ∧ x = enc rs ∧ (writeL rs).length ≤ s.length := by
  have hn := (readL_valid h).2.2.1
  cases s with
  | nil => cases h
  | cons b t =>
    simp only [readL] at h
    split at h
    · cases hr : readR t with
      | none => rw [hr] at h; cases h
      | some z =>
        obtain ⟨x', m'⟩ := z
        rw [hr] at h
        cases h
        obtain ⟨rs, h4, h5, h6⟩ := readF_wr _ _ _ _ hr
        exact ⟨rs, h4, h5, by rw [writeL_len]; omega⟩
    · cases h
end Go.Qt
