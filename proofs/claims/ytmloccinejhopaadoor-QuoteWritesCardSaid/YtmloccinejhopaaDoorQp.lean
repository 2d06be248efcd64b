/- Texts in quotes: the plain functions, and what holds of them. No program stands here. -/
import Derived.Lib.ValidLaws
set_option linter.unusedVariables false
set_option linter.unusedSimpArgs false
namespace Go.Qt
open Go Go.Lib

abbrev Bs := List UInt8
/-- Is a number a character? -/
def isChar (n : Int) : Prop := 0 ≤ n ∧ n ≤ 1114111 ∧ ¬ (55296 ≤ n ∧ n ≤ 57343)
instance (n : Int) : Decidable (isChar n) := by unfold isChar; infer_instance
def charL (n : Int) : Bs := if isChar n then encodeRune n else []
/-- Bytes begin with a character. -/
def okD (l : Bs) : Prop := l ≠ [] ∧ ¬ ((decodeL l).1 = 65533 ∧ (decodeL l).2 = 1)
instance (l : Bs) : Decidable (okD l) := by unfold okD; infer_instance
def firstL (l : Bs) : Int × Nat := if okD l then ((decodeL l).1, (decodeL l).2) else (0, 0)

theorem bt (z : Int) (h0 : 0 ≤ z) (h1 : z ≤ 255) : ((z.toNat.toUInt8).toNat : Int) = z := by
  rw [Nat.toUInt8_eq, UInt8.toNat_ofNat']; omega
theorem btn (z : Int) (h0 : 0 ≤ z) (h1 : z ≤ 255) : (z.toNat.toUInt8).toNat = z.toNat := by
  have := bt z h0 h1; omega
theorem enc_cases {c : Int} (h : isChar c) :
    (c ≤ 127 ∧ encodeRune c = [c.toNat.toUInt8]) ∨
    (128 ≤ c ∧ c ≤ 2047 ∧ encodeRune c = [(192 + c / 64).toNat.toUInt8, (128 + c % 64).toNat.toUInt8]) ∨
    (2048 ≤ c ∧ c ≤ 65535 ∧ encodeRune c = [(224 + c / 4096).toNat.toUInt8, (128 + c / 64 % 64).toNat.toUInt8, (128 + c % 64).toNat.toUInt8]) ∨
    (65536 ≤ c ∧ encodeRune c = [(240 + c / 262144).toNat.toUInt8, (128 + c / 4096 % 64).toNat.toUInt8, (128 + c / 64 % 64).toNat.toUInt8, (128 + c % 64).toNat.toUInt8]) := by
  obtain ⟨h0, h1, h2⟩ := h
  unfold encodeRune encodeRuneZ
  by_cases a : c ≤ 127
  · left; simp [a, h0]
  · by_cases b : c ≤ 2047
    · right; left
      rw [if_neg (by omega), if_pos (by omega)]
      exact ⟨by omega, b, rfl⟩
    · by_cases d : c ≤ 65535
      · right; right; left
        rw [if_neg (by omega), if_neg (by omega), if_pos (by omega)]
        exact ⟨by omega, d, rfl⟩
      · right; right; right
        rw [if_neg (by omega), if_neg (by omega), if_neg (by omega), if_pos (by omega)]
        exact ⟨by omega, rfl⟩
theorem enc_len {c : Int} (h : isChar c) : 1 ≤ (encodeRune c).length ∧ (encodeRune c).length ≤ 4 := by
  rcases enc_cases h with ⟨_, e⟩ | ⟨_, _, e⟩ | ⟨_, _, e⟩ | ⟨_, e⟩ <;> rw [e] <;> simp
/-- What is encoded is decoded, whatever stands behind it. -/
theorem decode_encode {c : Int} (h : isChar c) (t : Bs) : decodeL (encodeRune c ++ t) = (c.toNat, (encodeRune c).length) := by
  have h' := h
  obtain ⟨h0, h1, h2⟩ := h
  rcases enc_cases h' with ⟨a, e⟩ | ⟨a, b, e⟩ | ⟨a, b, e⟩ | ⟨a, e⟩
  · rw [e, decodeL_N]
    simp only [List.cons_append, List.nil_append, List.getD_cons_zero, List.length_cons]
    rw [btn c h0 (by omega)]
    unfold decodeN
    rw [if_pos (by omega)]
    rfl
  · rw [e, decodeL_N]
    simp only [List.cons_append, List.nil_append, List.getD_cons_zero, List.getD_cons_succ, List.length_cons]
    rw [btn _ (by omega) (by omega), btn (128 + c % 64) (by omega) (by omega)]
    unfold decodeN
    rw [if_neg (by omega), if_pos (by omega), if_pos (by omega)]
    refine Prod.ext ?_ rfl
    show _ = c.toNat
    omega
  · rw [e, decodeL_N]
    simp only [List.cons_append, List.nil_append, List.getD_cons_zero, List.getD_cons_succ, List.length_cons]
    rw [btn _ (by omega) (by omega), btn (128 + c / 64 % 64) (by omega) (by omega), btn (128 + c % 64) (by omega) (by omega)]
    unfold decodeN
    rw [if_neg (by omega), if_neg (by omega), if_pos (by omega), if_pos (by omega)]
    refine Prod.ext ?_ rfl
    show _ = c.toNat
    omega
  · rw [e, decodeL_N]
    simp only [List.cons_append, List.nil_append, List.getD_cons_zero, List.getD_cons_succ, List.length_cons]
    rw [btn _ (by omega) (by omega), btn (128 + c / 4096 % 64) (by omega) (by omega), btn (128 + c / 64 % 64) (by omega) (by omega), btn (128 + c % 64) (by omega) (by omega)]
    unfold decodeN
    rw [if_neg (by omega), if_neg (by omega), if_neg (by omega), if_pos (by omega), if_pos (by omega)]
    refine Prod.ext ?_ rfl
    show _ = c.toNat
    omega
theorem okD_encode {c : Int} (h : isChar c) (t : Bs) : okD (encodeRune c ++ t) := by
  have hl := enc_len h
  refine ⟨fun e => ?_, ?_⟩
  · have : (encodeRune c ++ t).length = 0 := by rw [e]; rfl
    rw [List.length_append] at this; omega
  · rw [decode_encode h t]
    rintro ⟨h1, h2⟩
    have h1 : c.toNat = 65533 := h1
    have h2 : (encodeRune c).length = 1 := h2
    have hc : c = 65533 := by have := h.1; omega
    subst hc
    have : (encodeRune 65533).length = 3 := by decide
    omega
/-- A proper beginning of what is encoded is no character. -/
theorem decode_part {c : Int} (h : isChar c) {k : Nat} (hk : k < (encodeRune c).length) : ¬ okD ((encodeRune c).take k) := by
  have h' := h
  obtain ⟨h0, h1, h2⟩ := h
  rintro ⟨hne, hok⟩
  refine hok ?_
  have hk0 : k ≠ 0 := by rintro rfl; exact hne (List.take_zero)
  have t0 : ∀ k : Nat, k < 1 → k = 0 := by omega
  rcases enc_cases h' with ⟨a, e⟩ | ⟨a, b, e⟩ | ⟨a, b, e⟩ | ⟨a, e⟩
  · rw [e] at hk; simp at hk; omega
  · rw [e] at hk ⊢
    simp at hk
    obtain rfl : k = 1 := by omega
    rw [decodeL_N]
    simp only [List.take_succ_cons, List.take_zero, List.getD_cons_zero, List.length_cons, List.length_nil]
    rw [btn _ (by omega) (by omega)]
    unfold decodeN
    rw [if_neg (by omega), if_neg (by omega), if_neg (by omega), if_neg (by omega)]
    exact ⟨rfl, rfl⟩
  · rw [e] at hk ⊢
    simp at hk
    obtain rfl | rfl : k = 1 ∨ k = 2 := by omega
    all_goals
      rw [decodeL_N]
      simp only [List.take_succ_cons, List.take_zero, List.getD_cons_zero, List.getD_cons_succ, List.length_cons, List.length_nil]
      rw [btn _ (by omega) (by omega)]
      unfold decodeN
      rw [if_neg (by omega), if_neg (by omega), if_neg (by omega), if_neg (by omega)]
      exact ⟨rfl, rfl⟩
  · rw [e] at hk ⊢
    simp at hk
    obtain rfl | rfl | rfl : k = 1 ∨ k = 2 ∨ k = 3 := by omega
    all_goals
      rw [decodeL_N]
      simp only [List.take_succ_cons, List.take_zero, List.getD_cons_zero, List.getD_cons_succ, List.length_cons, List.length_nil]
      rw [btn _ (by omega) (by omega)]
      unfold decodeN
      rw [if_neg (by omega), if_neg (by omega), if_neg (by omega), if_neg (by omega)]
      exact ⟨rfl, rfl⟩
theorem okD_char {l : Bs} (h : okD l) : isChar ((decodeL l).1 : Int) ∧ encodeRune ((decodeL l).1 : Int) = l.take (decodeL l).2 ∧ (decodeL l).2 ≤ l.length ∧ 1 ≤ (decodeL l).2 := by
  obtain ⟨hne, hok⟩ := h
  refine ⟨?_, encode_decode l hne hok, decodeL_le l hne, decodeL_width l⟩
  rw [decodeL_N] at hok ⊢
  have k0 := (l.getD 0 0).toNat_lt
  unfold isChar
  rcases decodeN_shape l.length (l.getD 0 0).toNat (l.getD 1 0).toNat (l.getD 2 0).toNat (l.getD 3 0).toNat with ⟨c, e⟩ | ⟨c1, c2, c3, cv, e⟩ | ⟨c1, c2, c3, c4, cv, cs, e⟩ | ⟨c1, c2, c3, c4, c5, cv, cw, e⟩ | e
  · rw [e]; dsimp only; omega
  · rw [e]; dsimp only; omega
  · rw [e]; dsimp only; omega
  · rw [e]; dsimp only; omega
  · rw [e] at hok; exact absurd ⟨rfl, rfl⟩ hok
end Go.Qt
