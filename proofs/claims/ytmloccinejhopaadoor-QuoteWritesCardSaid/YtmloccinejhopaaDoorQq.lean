/- Texts in quotes: writing and reading, as plain functions, and the laws of the two. No program stands here. -/
import Derived.Test.YtmloccinejhopaaDoorQp
set_option linter.unusedVariables false
set_option linter.unusedSimpArgs false
namespace Go.Qt
open Go Go.Lib

def enc (rs : List Int) : Bs := rs.flatMap encodeRune
def chars (rs : List Int) : Prop := ∀ c ∈ rs, isChar c
theorem valid_enc : ∀ (rs : List Int), chars rs → validD (enc rs) = true
  | [], _ => rfl
  | c :: rs, h => by
    have hc := h c List.mem_cons_self
    have ho := okD_encode hc (enc rs)
    show validD (encodeRune c ++ enc rs) = true
    rw [validD_step _ ho.1, if_neg ho.2, decode_encode hc]
    show validD ((encodeRune c ++ enc rs).drop (encodeRune c).length) = true
    rw [List.drop_left]
    exact valid_enc rs fun x hx => h x (List.mem_cons_of_mem _ hx)
theorem runes_of : ∀ (n : Nat) (l : Bs), l.length ≤ n → validD l = true → ∃ rs, chars rs ∧ l = enc rs
  | 0, l, hn, _ => ⟨[], fun _ h => absurd h (by simp), List.eq_nil_of_length_eq_zero (by omega)⟩
  | n + 1, l, hn, hv => by
    by_cases hne : l = []
    · exact ⟨[], fun _ h => absurd h (by simp), hne⟩
    · rw [validD_step l hne] at hv
      by_cases hb : (decodeL l).1 = 65533 ∧ (decodeL l).2 = 1
      · rw [if_pos hb] at hv; cases hv
      · rw [if_neg hb] at hv
        obtain ⟨h1, h2, h3, h4⟩ := okD_char ⟨hne, hb⟩
        obtain ⟨rs, h5, h6⟩ := runes_of n (l.drop (decodeL l).2) (by rw [List.length_drop]; omega) hv
        refine ⟨((decodeL l).1 : Int) :: rs, fun c hc => ?_, ?_⟩
        · rcases List.mem_cons.1 hc with rfl | hc
          · exact h1
          · exact h5 c hc
        · show l = encodeRune _ ++ enc rs
          rw [h2, ← h6, List.take_append_drop]
theorem runes (l : Bs) : validD l = true ↔ ∃ rs, chars rs ∧ l = enc rs :=
  ⟨runes_of l.length l (Nat.le_refl _), fun ⟨rs, h1, h2⟩ => by rw [h2]; exact valid_enc rs h1⟩

/-! ### Writing -/
def hx (n : Nat) : UInt8 := if n < 10 then UInt8.ofNat (48 + n) else UInt8.ofNat (87 + n)
def escL (c : Int) : Bs :=
  if c = 34 ∨ c = 92 then [92, c.toNat.toUInt8]
  else if c = 8 then [92, 98] else if c = 9 then [92, 116] else if c = 10 then [92, 110] else if c = 12 then [92, 102] else if c = 13 then [92, 114]
  else if c < 32 then [92, 117, 48, 48, hx (c / 16).toNat, hx (c % 16).toNat]
  else encodeRune c
def wr (rs : List Int) : Bs := rs.flatMap escL
def writeL (rs : List Int) : Bs := 34 :: (wr rs ++ [34])

/-! ### Reading -/
def dig (c : UInt8) : Option Nat := if 48 ≤ c.toNat ∧ c.toNat ≤ 57 then some (c.toNat - 48) else if 97 ≤ c.toNat ∧ c.toNat ≤ 102 then some (c.toNat - 87) else if 65 ≤ c.toNat ∧ c.toNat ≤ 70 then some (c.toNat - 55) else none
def hex4 : Bs → Option Nat
  | a :: b :: c :: d :: _ => match dig a, dig b, dig c, dig d with
    | some a, some b, some c, some d => some (((a * 16 + b) * 16 + c) * 16 + d)
    | _, _, _, _ => none
  | _ => none
def uniU (u : Bs) : Option (Int × Nat) :=
  match hex4 u with
  | none => none
  | some a =>
    if 56320 ≤ a ∧ a < 57344 then none
    else if a < 55296 ∨ 57344 ≤ a then some ((a : Int), 4)
    else if u.length < 6 ∨ u.getD 4 0 ≠ 92 ∨ u.getD 5 0 ≠ 117 then none
    else match hex4 (u.drop 6) with
      | none => none
      | some b => if b < 56320 ∨ 57344 ≤ b then none else some (65536 + ((a : Int) - 55296) * 1024 + ((b : Int) - 56320), 10)
def escU : Bs → Option (Int × Nat)
  | [] => none
  | c :: u =>
    if c = 34 ∨ c = 92 ∨ c = 47 then some ((c.toNat : Int), 1)
    else if c = 98 then some (8, 1) else if c = 102 then some (12, 1) else if c = 110 then some (10, 1) else if c = 114 then some (13, 1) else if c = 116 then some (9, 1)
    else if c = 117 then match uniU u with | none => none | some (r, n) => some (r, n + 1)
    else none
def pieceL : Bs → Option (Int × Nat)
  | [] => none
  | b :: t =>
    if b.toNat < 32 ∨ b = 34 then none
    else if b = 92 then match escU t with | none => none | some (r, n) => some (r, n + 1)
    else if okD (b :: t) then some (((decodeL (b :: t)).1 : Int), (decodeL (b :: t)).2) else none
def readF : Nat → Bs → Option (Bs × Nat)
  | 0, _ => none
  | _ + 1, [] => none
  | n + 1, b :: t => if b = 34 then some ([], 1) else match pieceL (b :: t) with
    | none => none
    | some (c, k) => match readF n ((b :: t).drop k) with
      | none => none
      | some (x, m) => some (encodeRune c ++ x, k + m)
def readR (r : Bs) : Option (Bs × Nat) := readF (r.length + 1) r
def readL : Bs → Option (Bs × Nat)
  | [] => none
  | b :: t => if b = 34 then match readR t with | none => none | some (x, m) => some (x, m + 1) else none

theorem hex4_bd {u : Bs} {a : Nat} (h : hex4 u = some a) : a < 65536 ∧ 4 ≤ u.length := by
  have hd : ∀ c n, dig c = some n → n < 16 := fun c n e => by
    unfold dig at e
    split at e
    · cases e; omega
    · split at e
      · cases e; omega
      · split at e
        · cases e; omega
        · cases e
  unfold hex4 at h
  split at h
  · split at h
    · rename_i e1 e2 e3 e4
      cases h
      have := hd _ _ e1; have := hd _ _ e2; have := hd _ _ e3; have := hd _ _ e4
      refine ⟨by omega, by simp⟩
    · cases h
  · cases h
theorem uniU_bd {u : Bs} {c : Int} {n : Nat} (h : uniU u = some (c, n)) : isChar c ∧ 1 ≤ n ∧ n ≤ u.length := by
  unfold uniU at h
  cases h4 : hex4 u with
  | none => rw [h4] at h; cases h
  | some a =>
    rw [h4] at h
    have hb := hex4_bd h4
    dsimp only at h
    split at h
    · cases h
    · split at h
      · cases h
        refine ⟨⟨by omega, by omega, by omega⟩, by omega, by omega⟩
      · split at h
        · cases h
        · cases h5 : hex4 (u.drop 6) with
          | none => rw [h5] at h; cases h
          | some b =>
            rw [h5] at h
            have hb2 := hex4_bd h5
            rw [List.length_drop] at hb2
            dsimp only at h
            split at h
            · cases h
            · cases h
              refine ⟨⟨by omega, by omega, by omega⟩, by omega, by omega⟩
theorem escU_bd {u : Bs} {c : Int} {n : Nat} (h : escU u = some (c, n)) : isChar c ∧ 1 ≤ n ∧ n ≤ u.length := by
  cases u with
  | nil => cases h
  | cons x u =>
    simp only [escU] at h
    split at h
    · rename_i hx
      cases h
      refine ⟨?_, Nat.le_refl _, by simp⟩
      rcases hx with rfl | rfl | rfl <;> decide
    · repeat' split at h
      all_goals first
        | (cases h; exact ⟨by decide, Nat.le_refl _, by simp⟩)
        | (cases h; done)
        | skip
      rename_i r n' e
      cases h
      obtain ⟨h1, h2, h3⟩ := uniU_bd e
      exact ⟨h1, by omega, by simp; omega⟩
theorem pieceL_bd {r : Bs} {c : Int} {k : Nat} (h : pieceL r = some (c, k)) : isChar c ∧ 1 ≤ k ∧ k ≤ r.length := by
  cases r with
  | nil => cases h
  | cons b t =>
    simp only [pieceL] at h
    split at h
    · cases h
    · split at h
      · split at h
        · cases h
        · rename_i r n e
          cases h
          obtain ⟨h1, h2, h3⟩ := escU_bd e
          exact ⟨h1, by omega, by simp; omega⟩
      · split at h
        · rename_i ho
          cases h
          obtain ⟨h1, h2, h3, h4⟩ := okD_char ho
          exact ⟨h1, h4, h3⟩
        · cases h
theorem readF_fuel : ∀ (n m : Nat) (r : Bs), r.length < n → r.length < m → readF n r = readF m r
  | 0, _, _, h, _ => by omega
  | _ + 1, 0, _, _, h => by omega
  | n + 1, m + 1, [], _, _ => rfl
  | n + 1, m + 1, b :: t, hn, hm => by
    simp only [readF]
    split
    · rfl
    · cases hp : pieceL (b :: t) with
      | none => rfl
      | some x =>
        obtain ⟨c, k⟩ := x
        obtain ⟨_, h2, h3⟩ := pieceL_bd hp
        have hl : ((b :: t).drop k).length < (b :: t).length := by rw [List.length_drop]; omega
        dsimp only
        rw [readF_fuel n m _ (by omega) (by omega)]
theorem readR_nil : readR [] = none := rfl
theorem readR_quote (t : Bs) : readR (34 :: t) = some ([], 1) := rfl
theorem readR_bad {b : UInt8} {t : Bs} (hb : b ≠ 34) (h : pieceL (b :: t) = none) : readR (b :: t) = none := by
  simp only [readR, readF, if_neg hb, h]
theorem readR_step {b : UInt8} {t : Bs} {c : Int} {k : Nat} (hb : b ≠ 34) (h : pieceL (b :: t) = some (c, k)) :
    readR (b :: t) = match readR ((b :: t).drop k) with | none => none | some (x, m) => some (encodeRune c ++ x, k + m) := by
  obtain ⟨_, h2, h3⟩ := pieceL_bd h
  have e : readF (b :: t).length ((b :: t).drop k) = readR ((b :: t).drop k) := readF_fuel _ _ _ (by rw [List.length_drop]; omega) (by omega)
  show readF ((b :: t).length + 1) (b :: t) = _
  simp only [readF, if_neg hb, h, e]

/-! ### What is written is read -/
theorem dig_hx {n : Nat} (h : n < 16) : dig (hx n) = some n := by
  have : ∀ n : Fin 16, dig (hx n.val) = some n.val := by decide
  exact this ⟨n, h⟩
theorem enc_head {c : Int} (h : isChar c) : ∃ b t, encodeRune c = b :: t ∧ ((c ≤ 127 ∧ (b.toNat : Int) = c) ∨ (128 ≤ c ∧ 192 ≤ b.toNat)) := by
  have h' := h
  obtain ⟨h0, h1, h2⟩ := h
  rcases enc_cases h' with ⟨a, e⟩ | ⟨a, b, e⟩ | ⟨a, b, e⟩ | ⟨a, e⟩
  · exact ⟨_, _, e, .inl ⟨a, bt c h0 (by omega)⟩⟩
  · refine ⟨_, _, e, .inr ⟨by omega, ?_⟩⟩
    rw [btn _ (by omega) (by omega)]; omega
  · refine ⟨_, _, e, .inr ⟨by omega, ?_⟩⟩
    rw [btn _ (by omega) (by omega)]; omega
  · refine ⟨_, _, e, .inr ⟨by omega, ?_⟩⟩
    rw [btn _ (by omega) (by omega)]; omega
theorem u8ne {b : UInt8} {n : Nat} (hn : n < 256) (h : b.toNat ≠ n) : b ≠ UInt8.ofNat n := by
  rintro rfl
  rw [UInt8.toNat_ofNat'] at h; omega
/-- What kind of thing is written for a character. -/
theorem esc_cases {c : Int} (h : isChar c) :
    (∃ x, escL c = [92, x] ∧ ∀ t, escU (x :: t) = some (c, 1)) ∨
    (∃ n : Nat, n < 32 ∧ c = (n : Int) ∧ escL c = [92, 117, 48, 48, hx (n / 16), hx (n % 16)]) ∨
    (32 ≤ c ∧ c ≠ 34 ∧ c ≠ 92 ∧ escL c = encodeRune c) := by
  obtain ⟨h0, h1, h2⟩ := h
  unfold escL
  by_cases a : c = 34 ∨ c = 92
  · rw [if_pos a]
    left
    rcases a with rfl | rfl
    · exact ⟨_, rfl, fun t => by rfl⟩
    · exact ⟨_, rfl, fun t => by rfl⟩
  rw [if_neg a]
  by_cases a1 : c = 8
  · subst a1; left; exact ⟨_, rfl, fun t => by rfl⟩
  rw [if_neg a1]
  by_cases a2 : c = 9
  · subst a2; left; exact ⟨_, rfl, fun t => by rfl⟩
  rw [if_neg a2]
  by_cases a3 : c = 10
  · subst a3; left; exact ⟨_, rfl, fun t => by rfl⟩
  rw [if_neg a3]
  by_cases a4 : c = 12
  · subst a4; left; exact ⟨_, rfl, fun t => by rfl⟩
  rw [if_neg a4]
  by_cases a5 : c = 13
  · subst a5; left; exact ⟨_, rfl, fun t => by rfl⟩
  rw [if_neg a5]
  by_cases a6 : c < 32
  · rw [if_pos a6]
    right; left
    refine ⟨c.toNat, by omega, by omega, ?_⟩
    have e1 : (c / 16).toNat = c.toNat / 16 := by omega
    have e2 : (c % 16).toNat = c.toNat % 16 := by omega
    rw [e1, e2]
  · rw [if_neg a6]
    right; right
    exact ⟨by omega, by omega, by omega, rfl⟩
theorem piece_esc {c : Int} (h : isChar c) (t : Bs) : ∃ b u, escL c ++ t = b :: u ∧ b ≠ 34 ∧ pieceL (b :: u) = some (c, (escL c).length) := by
  rcases esc_cases h with ⟨x, e, hx⟩ | ⟨n, hn, rfl, e⟩ | ⟨h1, h2, h3, e⟩
  · refine ⟨92, x :: t, by rw [e]; rfl, by decide, ?_⟩
    have : pieceL (92 :: x :: t) = match escU (x :: t) with | none => none | some (r, n) => some (r, n + 1) := rfl
    rw [this, hx, e]; rfl
  · refine ⟨92, 117 :: 48 :: 48 :: hx (n / 16) :: hx (n % 16) :: t, by rw [e]; rfl, by decide, ?_⟩
    have : ∀ w, pieceL (92 :: 117 :: w) = match uniU w with | none => none | some (r, n) => some (r, n + 1 + 1) := fun w => by
      have e1 : pieceL (92 :: 117 :: w) = match escU (117 :: w) with | none => none | some (r, n) => some (r, n + 1) := rfl
      have e2 : escU (117 :: w) = match uniU w with | none => none | some (r, n) => some (r, n + 1) := rfl
      rw [e1, e2]; cases uniU w <;> rfl
    rw [this]
    have h4 : hex4 (48 :: 48 :: hx (n / 16) :: hx (n % 16) :: t) = some n := by
      have e0 : dig 48 = some 0 := by decide
      have e1 := dig_hx (n := n / 16) (by omega)
      have e2 := dig_hx (n := n % 16) (by omega)
      simp only [hex4, e0, e1, e2]
      exact congrArg some (by omega)
    have h5 : uniU (48 :: 48 :: hx (n / 16) :: hx (n % 16) :: t) = some ((n : Int), 4) := by
      unfold uniU
      rw [h4]
      dsimp only
      rw [if_neg (by omega), if_pos (by omega)]
    show (match uniU (48 :: 48 :: hx (n / 16) :: hx (n % 16) :: t) with | none => none | some (r, n) => some (r, n + 1 + 1)) = _
    rw [h5, e]; rfl
  · obtain ⟨b, u, e2, hb⟩ := enc_head h
    have hb1 : ¬ (b.toNat < 32 ∨ b = 34) := by
      rintro (hh | rfl)
      · omega
      · have : (34 : UInt8).toNat = 34 := rfl
        omega
    have hb2 : b ≠ 92 := by
      rintro rfl
      have : (92 : UInt8).toNat = 92 := rfl
      omega
    refine ⟨b, u ++ t, by rw [e, e2]; rfl, fun e => hb1 (.inr e), ?_⟩
    have e3 : b :: (u ++ t) = encodeRune c ++ t := by rw [e2]; rfl
    simp only [pieceL, if_neg hb1, if_neg hb2]
    rw [e3, if_pos (okD_encode h t), decode_encode h t, e]
    refine congrArg some (Prod.ext ?_ rfl)
    have := h.1
    show ((c.toNat : Nat) : Int) = c
    omega
theorem read_wr : ∀ (rs : List Int), chars rs → ∀ t, readR (wr rs ++ 34 :: t) = some (enc rs, (wr rs).length + 1)
  | [], _, t => rfl
  | c :: rs, h, t => by
    have ih := read_wr rs (fun x hx => h x (List.mem_cons_of_mem _ hx)) t
    obtain ⟨b, u, e, hb, hp⟩ := piece_esc (h c List.mem_cons_self) (wr rs ++ 34 :: t)
    have e1 : wr (c :: rs) ++ 34 :: t = escL c ++ (wr rs ++ 34 :: t) := by simp [wr]
    rw [e1, e, readR_step hb hp, ← e, List.drop_left, ih]
    dsimp only
    refine congrArg some (Prod.ext ?_ ?_)
    · rfl
    · show (escL c).length + ((wr rs).length + 1) = _
      simp [wr]; omega
theorem read_back {rs : List Int} (h : chars rs) (t : Bs) : readL (writeL rs ++ t) = some (enc rs, (writeL rs).length) := by
  have e : writeL rs ++ t = 34 :: (wr rs ++ 34 :: t) := by simp [writeL]
  rw [e]
  simp only [readL, if_true, read_wr rs h t]
  simp [writeL]
/-! ### A beginning is none -/
theorem piece_part {c : Int} (h : isChar c) {k : Nat} (h0 : 0 < k) (hk : k < (escL c).length) : ∃ b u, (escL c).take k = b :: u ∧ b ≠ 34 ∧ pieceL (b :: u) = none := by
  rcases esc_cases h with ⟨x, e, hx⟩ | ⟨n, hn, rfl, e⟩ | ⟨h1, h2, h3, e⟩
  · rw [e] at hk ⊢
    simp at hk
    obtain rfl : k = 1 := by omega
    exact ⟨92, [], rfl, by decide, rfl⟩
  · rw [e] at hk ⊢
    simp at hk
    obtain rfl | rfl | rfl | rfl | rfl : k = 1 ∨ k = 2 ∨ k = 3 ∨ k = 4 ∨ k = 5 := by omega
    all_goals exact ⟨92, _, rfl, by decide, rfl⟩
  · rw [e] at hk ⊢
    obtain ⟨b, u, e2, hb⟩ := enc_head h
    have hb1 : ¬ (b.toNat < 32 ∨ b = 34) := by
      rintro (hh | rfl)
      · omega
      · have : (34 : UInt8).toNat = 34 := rfl
        omega
    have hb2 : b ≠ 92 := by
      rintro rfl
      have : (92 : UInt8).toNat = 92 := rfl
      omega
    have hpart := decode_part h hk
    obtain ⟨j, rfl⟩ : ∃ j, k = j + 1 := ⟨k - 1, by omega⟩
    rw [e2, List.take_succ_cons] at hpart ⊢
    refine ⟨b, u.take j, rfl, fun e => hb1 (.inr e), ?_⟩
    simp only [pieceL, if_neg hb1, if_neg hb2, if_neg hpart]
theorem read_part : ∀ (rs : List Int), chars rs → ∀ k, k < (wr rs ++ [34]).length → readR ((wr rs ++ [34]).take k) = none
  | [], _, k, hk => by
    have : k = 0 := by simpa [wr] using hk
    subst this; rfl
  | c :: rs, h, k, hk => by
    have hc := h c List.mem_cons_self
    have e1 : wr (c :: rs) ++ [34] = escL c ++ (wr rs ++ [34]) := by simp [wr]
    rw [e1] at hk ⊢
    rw [List.length_append] at hk
    rcases Nat.lt_or_ge k (escL c).length with hlt | hge
    · rw [List.take_append_of_le_length (by omega)]
      rcases Nat.eq_zero_or_pos k with rfl | hpos
      · rfl
      · obtain ⟨b, u, e, hb, hp⟩ := piece_part hc hpos hlt
        rw [e]; exact readR_bad hb hp
    · have ih := read_part rs (fun x hx => h x (List.mem_cons_of_mem _ hx)) (k - (escL c).length) (by omega)
      rw [List.take_append, List.take_of_length_le (by omega)]
      obtain ⟨b, u, e, hb, hp⟩ := piece_esc hc ((wr rs ++ [34]).take (k - (escL c).length))
      rw [e, readR_step hb hp, ← e, List.drop_left, ih]
theorem cut_none {rs : List Int} (h : chars rs) {k : Nat} (hk : k < (writeL rs).length) : readL ((writeL rs).take k) = none := by
  cases k with
  | zero => rfl
  | succ k =>
    have : (writeL rs).take (k + 1) = 34 :: (wr rs ++ [34]).take k := rfl
    rw [this]
    simp only [readL, if_true]
    rw [read_part rs h k (by simp [writeL] at hk ⊢; omega)]
/-! ### What is written is clean; what is read is a text -/
def clean : Bool → Bs → Option Bool
  | b, [] => some b
  | b, x :: t => if x.toNat < 32 ∨ (x = 34 ∧ b = false) then none else clean (decide (x = 92) && !b) t
theorem clean_append : ∀ (l m : Bs) (b : Bool), clean b (l ++ m) = match clean b l with | none => none | some b' => clean b' m
  | [], m, b => rfl
  | x :: l, m, b => by
    simp only [List.cons_append, clean]
    split
    · rfl
    · exact clean_append l m _
theorem clean_plain : ∀ (l : Bs), (∀ x ∈ l, 32 ≤ x.toNat ∧ x ≠ 34 ∧ x ≠ 92) → clean false l = some false
  | [], _ => rfl
  | x :: l, h => by
    obtain ⟨h1, h2, h3⟩ := h x List.mem_cons_self
    simp only [clean]
    rw [if_neg (by simp [h2]; omega)]
    have : (decide (x = 92) && !false) = false := by simp [h3]
    rw [this]
    exact clean_plain l fun y hy => h y (List.mem_cons_of_mem _ hy)
theorem enc_bytes {c : Int} (h : isChar c) (h1 : 32 ≤ c) (h2 : c ≠ 34) (h3 : c ≠ 92) : ∀ x ∈ encodeRune c, 32 ≤ x.toNat ∧ x ≠ 34 ∧ x ≠ 92 := by
  have h' := h
  obtain ⟨k0, k1, k2⟩ := h
  have key : ∀ z : Int, 128 ≤ z → z ≤ 255 → 32 ≤ (z.toNat.toUInt8).toNat ∧ z.toNat.toUInt8 ≠ 34 ∧ z.toNat.toUInt8 ≠ 92 := fun z a b => by
    have e := btn z (by omega) b
    refine ⟨by omega, fun e2 => ?_, fun e2 => ?_⟩
    · rw [e2] at e; have : (34 : UInt8).toNat = 34 := rfl; omega
    · rw [e2] at e; have : (92 : UInt8).toNat = 92 := rfl; omega
  rcases enc_cases h' with ⟨a, e⟩ | ⟨a, b, e⟩ | ⟨a, b, e⟩ | ⟨a, e⟩
  · rw [e]
    intro x hx
    obtain rfl : x = c.toNat.toUInt8 := by simpa using hx
    have e := btn c (by omega) (by omega)
    refine ⟨by omega, fun e2 => ?_, fun e2 => ?_⟩
    · rw [e2] at e; have : (34 : UInt8).toNat = 34 := rfl; omega
    · rw [e2] at e; have : (92 : UInt8).toNat = 92 := rfl; omega
  · rw [e]
    intro x hx
    simp only [List.mem_cons, List.not_mem_nil, or_false] at hx
    rcases hx with rfl | rfl <;> exact key _ (by omega) (by omega)
  · rw [e]
    intro x hx
    simp only [List.mem_cons, List.not_mem_nil, or_false] at hx
    rcases hx with rfl | rfl | rfl <;> exact key _ (by omega) (by omega)
  · rw [e]
    intro x hx
    simp only [List.mem_cons, List.not_mem_nil, or_false] at hx
    rcases hx with rfl | rfl | rfl | rfl <;> exact key _ (by omega) (by omega)
theorem clean_esc {c : Int} (h : isChar c) : clean false (escL c) = some false := by
  have h' := h
  obtain ⟨k0, k1, k2⟩ := h
  rcases esc_cases h' with ⟨x, e, hx⟩ | ⟨n, hn, rfl, e⟩ | ⟨h1, h2, h3, e⟩
  · rw [e]
    have h32 : 32 ≤ x.toNat := by
      rcases Nat.lt_or_ge x.toNat 32 with hlt | hge
      · exfalso
        have := hx []
        have ne : ∀ n : Nat, 32 ≤ n → n < 256 → x ≠ UInt8.ofNat n := fun n a b => u8ne b (by omega)
        have n1 : x ≠ 34 := ne 34 (by decide) (by decide)
        have n2 : x ≠ 92 := ne 92 (by decide) (by decide)
        have n3 : x ≠ 47 := ne 47 (by decide) (by decide)
        have n4 : x ≠ 98 := ne 98 (by decide) (by decide)
        have n5 : x ≠ 102 := ne 102 (by decide) (by decide)
        have n6 : x ≠ 110 := ne 110 (by decide) (by decide)
        have n7 : x ≠ 114 := ne 114 (by decide) (by decide)
        have n8 : x ≠ 116 := ne 116 (by decide) (by decide)
        have n9 : x ≠ 117 := ne 117 (by decide) (by decide)
        simp [escU, n1, n2, n3, n4, n5, n6, n7, n8, n9] at this
      · exact hge
    have s1 : clean false [92, x] = clean true [x] := rfl
    rw [s1]
    simp only [clean]
    rw [if_neg (by simp; omega)]
    simp
  · rw [e]
    have : ∀ n : Fin 32, clean false [92, 117, 48, 48, hx (n.val / 16), hx (n.val % 16)] = some false := by decide
    exact this ⟨n, hn⟩
  · rw [e]
    exact clean_plain _ (enc_bytes h' h1 h2 h3)
theorem clean_wr : ∀ (rs : List Int), chars rs → clean false (wr rs) = some false
  | [], _ => rfl
  | c :: rs, h => by
    have e1 : wr (c :: rs) = escL c ++ wr rs := by simp [wr]
    rw [e1, clean_append, clean_esc (h c List.mem_cons_self)]
    exact clean_wr rs fun x hx => h x (List.mem_cons_of_mem _ hx)
theorem ascii_enc : ∀ (l : Bs), (∀ x ∈ l, x.toNat < 128) → ∃ rs, chars rs ∧ l = enc rs
  | [], _ => ⟨[], fun _ h => absurd h (by simp), rfl⟩
  | x :: l, h => by
    obtain ⟨rs, h1, h2⟩ := ascii_enc l fun y hy => h y (List.mem_cons_of_mem _ hy)
    have hx := h x List.mem_cons_self
    have hc : isChar (x.toNat : Int) := ⟨by omega, by omega, by omega⟩
    refine ⟨(x.toNat : Int) :: rs, fun c hc' => ?_, ?_⟩
    · rcases List.mem_cons.1 hc' with rfl | hc'
      · exact hc
      · exact h1 c hc'
    · show x :: l = encodeRune _ ++ enc rs
      rw [← h2]
      rcases enc_cases hc with ⟨a, e⟩ | ⟨a, _⟩ | ⟨a, _⟩ | ⟨a, _⟩
      · rw [e]
        have : ((x.toNat : Int).toNat).toUInt8 = x := by simp
        rw [this]; rfl
      · omega
      · omega
      · omega
theorem enc_append (a b : List Int) : enc (a ++ b) = enc a ++ enc b := by simp [enc]
theorem esc_enc {c : Int} (h : isChar c) : ∃ rs, chars rs ∧ escL c = enc rs := by
  have h' := h
  obtain ⟨k0, k1, k2⟩ := h
  unfold escL
  by_cases a : c = 34 ∨ c = 92
  · rw [if_pos a]
    rcases a with rfl | rfl <;> exact ascii_enc _ (by decide)
  rw [if_neg a]
  by_cases a1 : c = 8
  · rw [if_pos a1]; exact ascii_enc _ (by decide)
  rw [if_neg a1]
  by_cases a2 : c = 9
  · rw [if_pos a2]; exact ascii_enc _ (by decide)
  rw [if_neg a2]
  by_cases a3 : c = 10
  · rw [if_pos a3]; exact ascii_enc _ (by decide)
  rw [if_neg a3]
  by_cases a4 : c = 12
  · rw [if_pos a4]; exact ascii_enc _ (by decide)
  rw [if_neg a4]
  by_cases a5 : c = 13
  · rw [if_pos a5]; exact ascii_enc _ (by decide)
  rw [if_neg a5]
  by_cases a6 : c < 32
  · rw [if_pos a6]
    have hh : ∀ n : Fin 16, (hx n.val).toNat < 128 := by decide
    have h1 := hh ⟨(c / 16).toNat, by omega⟩
    have h2 := hh ⟨(c % 16).toNat, by omega⟩
    refine ascii_enc _ fun x hx => ?_
    simp only [List.mem_cons, List.not_mem_nil, or_false] at hx
    rcases hx with rfl | rfl | rfl | rfl | rfl | rfl
    · decide
    · decide
    · decide
    · decide
    · exact h1
    · exact h2
  · rw [if_neg a6]
    exact ⟨[c], fun x hx => by obtain rfl : x = c := by simpa using hx
                               exact h', by simp [enc]⟩
theorem wr_enc : ∀ (rs : List Int), chars rs → ∃ rs', chars rs' ∧ wr rs = enc rs'
  | [], _ => ⟨[], fun _ h => absurd h (by simp), rfl⟩
  | c :: rs, h => by
    obtain ⟨r1, h1, e1⟩ := wr_enc rs fun x hx => h x (List.mem_cons_of_mem _ hx)
    obtain ⟨r2, h2, e2⟩ := esc_enc (h c List.mem_cons_self)
    refine ⟨r2 ++ r1, fun x hx => ?_, ?_⟩
    · rcases List.mem_append.1 hx with hx | hx
      · exact h2 x hx
      · exact h1 x hx
    · rw [enc_append, ← e1, ← e2]; simp [wr]
theorem write_valid {rs : List Int} (h : chars rs) : validD (writeL rs) = true := by
  obtain ⟨r1, h1, e1⟩ := wr_enc rs h
  have e34 : enc [34] = [34] := by decide
  refine (runes _).2 ⟨34 :: (r1 ++ [34]), fun x hx => ?_, ?_⟩
  · have c34 : isChar 34 := by decide
    simp only [List.mem_cons, List.mem_append, List.not_mem_nil, or_false] at hx
    rcases hx with rfl | hx | rfl
    · exact c34
    · exact h1 x hx
    · exact c34
  · show 34 :: (wr rs ++ [34]) = enc ([34] ++ (r1 ++ [34]))
    rw [enc_append, enc_append, e34, ← e1]; rfl
theorem readR_valid : ∀ (n : Nat) (r x : Bs) (m : Nat), readF n r = some (x, m) → (∃ rs, chars rs ∧ x = enc rs) ∧ 1 ≤ m ∧ m ≤ r.length ∧ r[m - 1]? = some 34
  | 0, _, _, _, h => by cases h
  | _ + 1, [], _, _, h => by cases h
  | n + 1, b :: t, x, m, h => by
    simp only [readF] at h
    split at h
    · rename_i hb
      cases h
      exact ⟨⟨[], fun _ h => absurd h (by simp), rfl⟩, Nat.le_refl _, by simp, by rw [hb]; rfl⟩
    · cases hp : pieceL (b :: t) with
      | none => rw [hp] at h; cases h
      | some y =>
        obtain ⟨c, k⟩ := y
        rw [hp] at h
        dsimp only at h
        cases hr : readF n ((b :: t).drop k) with
        | none => rw [hr] at h; cases h
        | some z =>
          obtain ⟨x', m'⟩ := z
          rw [hr] at h
          cases h
          obtain ⟨hc, h2, h3⟩ := pieceL_bd hp
          obtain ⟨⟨rs, h4, h5⟩, h6, h7, h8⟩ := readR_valid n _ _ _ hr
          rw [List.length_drop] at h7
          refine ⟨⟨c :: rs, fun y hy => ?_, by rw [h5]; rfl⟩, by omega, by omega, ?_⟩
          · rcases List.mem_cons.1 hy with rfl | hy
            · exact hc
            · exact h4 y hy
          · rw [List.getElem?_drop] at h8
            rw [show k + m' - 1 = k + (m' - 1) by omega]; exact h8
theorem readL_valid {s x : Bs} {n : Nat} (h : readL s = some (x, n)) : (∃ rs, chars rs ∧ x = enc rs) ∧ 2 ≤ n ∧ n ≤ s.length ∧ s[n - 1]? = some 34 := by
  cases s with
  | nil => cases h
  | cons b t =>
    simp only [readL] at h
    split at h
    · cases hr : readR t with
      | none => rw [hr] at h; cases h
      | some z =>
        obtain ⟨x', m'⟩ := z
        rw [hr] at h
        cases h
        obtain ⟨h1, h2, h3, h4⟩ := readR_valid _ _ _ _ hr
        refine ⟨h1, by omega, by simp; omega, ?_⟩
        obtain ⟨j, rfl⟩ : ∃ j, m' = j + 1 := ⟨m' - 1, by omega⟩
        exact h4
    · cases h
end Go.Qt
