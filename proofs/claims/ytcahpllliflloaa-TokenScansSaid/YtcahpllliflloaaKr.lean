/- The longest token at a place, and what it does not hang on. No program stands here. -/
import Derived.Test.YtcahpllliflloaaKq
set_option linter.unusedVariables false
set_option linter.unusedSimpArgs false
namespace Go.Tk

/-! ### The longest one -/
def pick : Bs → Nat × Nat
  | [] => (0, 0)
  | c :: t => if isLetter c then (nameL (c :: t), 1) else if c = 36 ∧ 0 < nameL t then (1 + nameL t, 2) else if c = 46 ∧ 0 < nameL t then (1 + nameL t, 3)
    else if isDigit c then (numberL (c :: t), 4) else if signL (c :: t) = 0 then (0, 0) else (signL (c :: t), 6)
theorem longest_at {r : Bs} {k K : Nat} (h1 : plainK (r.take k) = K) (hK : K ≠ 0) : ∀ N, k ≤ N → 0 < k → (∀ n, k < n → n ≤ N → plainK (r.take n) = 0) → longest r N = (k, K)
  | 0, hk, h0, _ => by omega
  | N + 1, hk, h0, hz => by
    rcases Nat.lt_or_ge k (N + 1) with h | h
    · rw [longest, if_pos (hz _ h (Nat.le_refl _))]
      exact longest_at h1 hK N (by omega) h0 fun n a b => hz n a (by omega)
    · obtain rfl : k = N + 1 := by omega
      rw [longest, h1, if_neg hK]
theorem longest_none {r : Bs} : ∀ N, (∀ n, 0 < n → n ≤ N → plainK (r.take n) = 0) → longest r N = (0, 0)
  | 0, _ => rfl
  | N + 1, hz => by
    rw [longest, if_pos (hz _ (by omega) (Nat.le_refl _))]
    exact longest_none N fun n a b => hz n a (by omega)
theorem ones_mem {c : UInt8} (h : c ∈ ones) : isLetter c = false ∧ isDigit c = false := by
  have : ∀ c ∈ ones, isLetter c = false ∧ isDigit c = false := by decide
  exact this c h
theorem letter_facts {c : UInt8} (h : isLetter c = true) : c ≠ 36 ∧ c ≠ 46 ∧ isDigit c = false ∧ c ≠ 47 ∧ c ∉ ones := by
  refine ⟨by rintro rfl; exact absurd h (by decide), by rintro rfl; exact absurd h (by decide), ?_, by rintro rfl; exact absurd h (by decide), fun hm => ?_⟩
  · cases hd : isDigit c with
    | false => rfl
    | true =>
      simp only [isDigit, isLetter, Bool.or_eq_true, Bool.and_eq_true, decide_eq_true_eq] at h hd
      omega
  · rw [(ones_mem hm).1] at h; cases h
theorem digit_facts {c : UInt8} (h : isDigit c = true) : c ≠ 36 ∧ c ≠ 46 ∧ isLetter c = false ∧ c ≠ 47 ∧ c ∉ ones := by
  refine ⟨by rintro rfl; exact absurd h (by decide), by rintro rfl; exact absurd h (by decide), ?_, by rintro rfl; exact absurd h (by decide), fun hm => ?_⟩
  · cases hd : isLetter c with
    | false => rfl
    | true =>
      simp only [isDigit, isLetter, Bool.or_eq_true, Bool.and_eq_true, decide_eq_true_eq] at h hd
      omega
  · rw [(ones_mem hm).2] at h; cases h
theorem twos_head {a b : UInt8} (h : [a, b] ∈ twos) : a ∈ ones ∨ a = 33 := by
  simp only [twos, List.mem_cons, List.cons.injEq, List.not_mem_nil, or_false, and_true] at h
  rcases h with h | h | h | h | h | h | h | h | h | h | h <;> (rw [h.1]; decide)
theorem isName_head {c : UInt8} {t : Bs} (h : isName (c :: t) = true) : isLetter c = true := by
  simp only [isName, Bool.and_eq_true] at h; exact h.1
theorem isNumber_head_dig {c : UInt8} {t : Bs} (h : isNumber (c :: t) = true) : isDigit c = true := by
  have h2 := (isNumber_take (r := c :: t) (n := (c :: t).length) (by rw [List.take_length]; exact h) (Nat.le_refl _)).2
  cases hd : isDigit c with
  | true => rfl
  | false => rw [runL_zero hd] at h2; omega
theorem isSign_head {c : UInt8} {t : Bs} (h : isSign (c :: t) = true) : c ∈ ones ∨ c = 33 := by
  unfold isSign at h
  simp only [Bool.or_eq_true, decide_eq_true_eq] at h
  rcases h with (h | h) | h
  · have h2 : (c :: t).length = 2 := by
      have : ∀ x ∈ twos, x.length = 2 := by decide
      exact this _ h
    cases t with
    | nil => simp at h2
    | cons d t => cases t with
      | nil => exact twos_head h
      | cons e t => simp at h2
  · cases t with
    | nil => exact .inl (by simpa using h)
    | cons d t => cases h
  · cases h; exact .inl (by decide)
theorem take_cons {c : UInt8} {t : Bs} {n : Nat} (h : 0 < n) : (c :: t).take n = c :: t.take (n - 1) := by
  obtain ⟨m, rfl⟩ : ∃ m, n = m + 1 := ⟨n - 1, by omega⟩
  rfl
theorem plainK_cons (c : UInt8) (t : Bs) : plainK (c :: t) = if isName (c :: t) then 1 else if c = 36 ∧ isName t then 2 else if c = 46 ∧ isName t then 3 else if isNumber (c :: t) then 4 else if isSign (c :: t) then 6 else 0 := by
  unfold plainK
  have e1 : ((c :: t).head? = some 36) = (c = 36) := by simp
  have e2 : ((c :: t).head? = some 46) = (c = 46) := by simp
  have e3 : (c :: t).drop 1 = t := rfl
  simp only [e1, e2, e3]
theorem plainK_letter {c : UInt8} (hc : isLetter c = true) (t : Bs) : plainK (c :: t) = if isName (c :: t) then 1 else 0 := by
  obtain ⟨h1, h2, h3, h4, h5⟩ := letter_facts hc
  have n1 : ¬ (c = 36 ∧ isName t = true) := fun h => h1 h.1
  have n2 : ¬ (c = 46 ∧ isName t = true) := fun h => h2 h.1
  rw [plainK_cons, if_neg n1, if_neg n2]
  have e1 : isNumber (c :: t) = false := by
    cases h : isNumber (c :: t) with
    | false => rfl
    | true => have := isNumber_head_dig h; rw [h3] at this; cases this
  have e2 : isSign (c :: t) = false := by
    cases h : isSign (c :: t) with
    | false => rfl
    | true => rcases isSign_head h with h | h
              · exact absurd h h5
              · subst h; exact absurd hc (by decide)
  rw [e1, e2]; rfl
theorem isName_notLetter {c : UInt8} (hc : isLetter c = false) (t : Bs) : isName (c :: t) = false := by simp [isName, hc]
theorem isNumber_notDigit {c : UInt8} (hc : isDigit c = false) (t : Bs) : isNumber (c :: t) = false := by
  cases h : isNumber (c :: t) with
  | false => rfl
  | true => have := isNumber_head_dig h; rw [hc] at this; cases this
theorem isSign_digit {c : UInt8} (hc : isDigit c = true) (t : Bs) : isSign (c :: t) = false := by
  cases h : isSign (c :: t) with
  | false => rfl
  | true => rcases isSign_head h with h | h
            · exact absurd h (digit_facts hc).2.2.2.2
            · subst h; exact absurd hc (by decide)
theorem longL_le (r : Bs) : longL r ≤ r.length := by
  cases r with
  | nil => simp [longL]
  | cons c t => have := takeWhile_le isLong t; simp only [longL, List.length_cons]; omega
theorem tw_mono {p q : UInt8 → Bool} (h : ∀ c, p c = true → q c = true) : ∀ s : Bs, (s.takeWhile p).length ≤ (s.takeWhile q).length
  | [] => by simp
  | c :: t => by
    have := tw_mono h t
    simp only [List.takeWhile_cons]
    cases hp : p c with
    | true => rw [h c hp]; simpa using this
    | false => simp
theorem isIn_long {c : UInt8} (h : isIn c = true) : isLong c = true := by
  simp only [isIn, Bool.or_eq_true] at h
  rcases h with h | h <;> simp [isLong, h]
theorem nameL_long (t : Bs) : nameL t ≤ (t.takeWhile isLong).length := by
  cases t with
  | nil => simp [nameL]
  | cons c t =>
    have := tw_mono (p := isIn) (q := isLong) (fun c h => isIn_long h) t
    simp only [nameL]
    split
    · rename_i h
      have : isLong c = true := isIn_long (by simp [isIn, h])
      simp only [List.takeWhile_cons, this, if_true, List.length_cons]; omega
    · omega
theorem tw_long_of {p : UInt8 → Bool} {t : Bs} {n : Nat} (hn : n ≤ t.length) (h : (t.take n).all p = true) : n ≤ (t.takeWhile p).length := by
  have h1 := tw_all h
  rw [tw_take, List.length_take] at h1
  omega
theorem numberL_long {c : UInt8} {t : Bs} (h : isDigit c = true) : numberL (c :: t) ≤ longL (c :: t) := by
  have h0 := runL_pos (t := t) h
  have hN := isNumber_numberL (s := c :: t) h0
  have hle := numberL_le (c :: t)
  have hpos := numberL_pos (t := t) h
  rw [take_cons hpos] at hN
  simp only [List.length_cons] at hle
  have hall : (c :: t.take (numberL (c :: t) - 1)).all isLong = true := by
    have hdl : ∀ c, isDigit c = true → isLong c = true := fun c h => isIn_long (by simp [isIn, h])
    have hhd : ∀ hd : Bs, headOk hd = true → hd.all isLong = true := by
      intro hd hh
      rcases headOk_cases hh with ⟨d, h1, _, rfl⟩ | ⟨d, f, h1, _, h2, _, rfl⟩
      · exact all_imp h1 hdl
      · rw [List.all_append, List.all_cons, all_imp h1 hdl, all_imp h2 hdl]; rfl
    rcases isNumber_cases hN with hh | ⟨hd, e, u, he, hh, hE, _, hu⟩
    · exact hhd _ hh
    · rw [he, List.all_append, hhd _ hh, List.all_cons]
      have h1 : isLong e = true := by
        have : e = 101 ∨ e = 69 := by simpa [isE] using hE
        rcases this with rfl | rfl <;> decide
      rw [h1]
      have h2 : u.all isLong = true := by
        rw [← List.take_append_drop (plusL u) u, List.all_append, all_imp hu hdl]
        cases u with
        | nil => rfl
        | cons v u =>
          by_cases hv : v = 43 ∨ v = 45
          · have : plusL (v :: u) = 1 := by simp only [plusL, if_pos hv]
            rw [this]
            rcases hv with rfl | rfl <;> rfl
          · have : plusL (v :: u) = 0 := by simp only [plusL, if_neg hv]
            rw [this]; rfl
      rw [h2]; rfl
  rw [List.all_cons, Bool.and_eq_true] at hall
  have := tw_long_of (by omega) hall.2
  show _ ≤ 1 + _
  omega
theorem signL_long {c : UInt8} {t : Bs} : signL (c :: t) ≤ longL (c :: t) := by
  have h0 : ∀ n, n ≤ t.length → (t.take n).all isLong = true → n + 1 ≤ longL (c :: t) := fun n h1 h2 => by
    have := tw_long_of h1 h2
    show _ ≤ 1 + _
    omega
  unfold signL
  split
  · rename_i h
    rw [take_cons (by omega)] at h
    injection h with h1 h2
    have h3 := congrArg List.length h2
    rw [List.length_take] at h3
    have h4 : [47, 61].length = 2 := rfl
    refine h0 2 (by rw [← h4]; omega) ?_
    show (t.take (3 - 1)).all isLong = true
    rw [h2]; decide
  · split
    · rename_i h
      rw [take_cons (by omega)] at h
      have h3 : (c :: t.take (2 - 1)).length = 2 := by
        have : ∀ x ∈ twos, x.length = 2 := by decide
        exact this _ h
      rw [List.length_cons, List.length_take] at h3
      refine h0 1 (by omega) ?_
      have : ∀ x ∈ twos, (x.drop 1).all isLong = true := by decide
      exact this _ h
    · dsimp only []
      split <;> simp [longL]
theorem longest_eq {r : Bs} : longest r (longL r) = pick r := by
  cases r with
  | nil => rfl
  | cons c t =>
    have hlen : (c :: t).length = t.length + 1 := rfl
    have hL : longL (c :: t) = 1 + (t.takeWhile isLong).length := rfl
    have hLl := longL_le (c :: t)
    unfold pick
    dsimp only []
    split
    · rename_i hc
      have h1 := nameL_pos (t := t) hc
      have h2 := nameL_le (c :: t)
      have hnl : nameL (c :: t) ≤ longL (c :: t) := by
        have := tw_mono (p := isIn) (q := isLong) (fun c h => isIn_long h) t
        simp only [nameL, if_pos hc, longL]; omega
      refine longest_at ?_ (by decide) _ hnl h1 fun n a b => ?_
      · have := (isName_take (r := c :: t) h1 h2).2 (Nat.le_refl _)
        rw [take_cons h1] at this ⊢
        rw [plainK_letter hc, if_pos this]
      · have hn : ¬ isName ((c :: t).take n) = true := fun h => by
          have := (isName_take (r := c :: t) (by omega) (by omega)).1 h
          omega
        rw [take_cons (by omega)] at hn ⊢
        rw [plainK_letter hc, if_neg hn]
    · rename_i hc
      have hc : isLetter c = false := by simpa using hc
      have hnt := nameL_le t
      have hnl := nameL_long t
      split
      · rename_i h36
        obtain ⟨rfl, hp⟩ := h36
        refine longest_at ?_ (by decide) _ (by omega) (by omega) fun n a b => ?_
        · rw [take_cons (by omega), Nat.add_sub_cancel_left, plainK_cons, isName_notLetter hc]
          have := (isName_take (r := t) hp hnt).2 (Nat.le_refl _)
          simp [this]
        · rw [take_cons (by omega), plainK_cons, isName_notLetter hc]
          have hn : ¬ isName (t.take (n - 1)) = true := fun h => by
            have := (isName_take (r := t) (by omega) (by omega)).1 h
            omega
          have h2 : isNumber (36 :: t.take (n - 1)) = false := isNumber_notDigit (by decide) _
          have h3 : isSign (36 :: t.take (n - 1)) = false := by
            cases h : isSign (36 :: t.take (n - 1)) with
            | false => rfl
            | true => rcases isSign_head h with h | h <;> exact absurd h (by decide)
          simp [hn, h2, h3]
      · rename_i h36
        split
        · rename_i h46
          obtain ⟨rfl, hp⟩ := h46
          refine longest_at ?_ (by decide) _ (by omega) (by omega) fun n a b => ?_
          · rw [take_cons (by omega), Nat.add_sub_cancel_left, plainK_cons, isName_notLetter hc]
            have := (isName_take (r := t) hp hnt).2 (Nat.le_refl _)
            simp [this]
          · have h3 : isSign ((46 :: t).take n) = false := by
              cases h : isSign ((46 :: t).take n) with
              | false => rfl
              | true =>
                have := isSign_take (r := 46 :: t) (by omega) h
                have h2 : signL (46 :: t) ≤ 2 := by
                  unfold signL
                  split
                  · rename_i h3
                    rw [take_cons (by omega)] at h3
                    injection h3 with h3 _
                    exact absurd h3 (by decide)
                  · split
                    · omega
                    · dsimp only []; split <;> omega
                omega
            rw [take_cons (by omega)] at h3 ⊢
            rw [plainK_cons, isName_notLetter hc]
            have hn : ¬ isName (t.take (n - 1)) = true := fun h => by
              have := (isName_take (r := t) (by omega) (by omega)).1 h
              omega
            have h2 : isNumber (46 :: t.take (n - 1)) = false := isNumber_notDigit (by decide) _
            simp [hn, h2, h3]
        · rename_i h46
          have nm : ∀ n, 0 < n → n ≤ longL (c :: t) → ¬ (c = 36 ∧ isName (t.take (n - 1)) = true) ∧ ¬ (c = 46 ∧ isName (t.take (n - 1)) = true) := by
            intro n hn0 hnl
            have hz : c = 36 ∨ c = 46 → nameL t = 0 := by
              rintro (h | h)
              · rcases Nat.eq_zero_or_pos (nameL t) with h0 | h0
                · exact h0
                · exact absurd ⟨h, h0⟩ h36
              · rcases Nat.eq_zero_or_pos (nameL t) with h0 | h0
                · exact h0
                · exact absurd ⟨h, h0⟩ h46
            have hno : c = 36 ∨ c = 46 → ¬ isName (t.take (n - 1)) = true := fun hcc h => by
              rcases Nat.eq_zero_or_pos (n - 1) with h0 | h0
              · rw [h0] at h; cases h
              · have := (isName_take (r := t) h0 (by omega)).1 h
                have := hz hcc
                omega
            exact ⟨fun h => hno (.inl h.1) h.2, fun h => hno (.inr h.1) h.2⟩
          split
          · rename_i hd
            have h1 := numberL_pos (t := t) hd
            have h0 := runL_pos (t := t) hd
            have hkk : ∀ n, 0 < n → n ≤ longL (c :: t) → plainK ((c :: t).take n) = if isNumber ((c :: t).take n) then 4 else 0 := by
              intro n hn0 hnl
              obtain ⟨n1, n2⟩ := nm n hn0 hnl
              rw [take_cons hn0, plainK_cons, isName_notLetter hc, if_neg n1, if_neg n2, isSign_digit hd]
              rfl
            refine longest_at ?_ (by decide) _ (numberL_long hd) h1 fun n a b => ?_
            · rw [hkk _ h1 (numberL_long hd), if_pos (isNumber_numberL h0)]
            · rw [hkk _ (by omega) b, if_neg]
              intro h
              have := (isNumber_take (r := c :: t) h (by omega)).1
              omega
          · rename_i hd
            have hd : isDigit c = false := by simpa using hd
            have hkk : ∀ n, 0 < n → n ≤ longL (c :: t) → plainK ((c :: t).take n) = if isSign ((c :: t).take n) then 6 else 0 := by
              intro n hn0 hnl
              obtain ⟨n1, n2⟩ := nm n hn0 hnl
              rw [take_cons hn0, plainK_cons, isName_notLetter hc, if_neg n1, if_neg n2, isNumber_notDigit hd]
              rfl
            split
            · rename_i hs
              refine longest_none _ fun n a b => ?_
              rw [hkk n a b, if_neg]
              intro h
              have := isSign_take (r := c :: t) (by omega) h
              omega
            · rename_i hs
              refine longest_at ?_ (by decide) _ signL_long (by omega) fun n a b => ?_
              · rw [hkk _ (by omega) signL_long, if_pos (isSign_signL (by omega))]
              · rw [hkk _ (by omega) b, if_neg]
                intro h
                have := isSign_take (r := c :: t) (by omega) h
                omega
/-- What is next, by the longest one. -/
theorem nextL_pick (q : Bs → Q) (r : Bs) : nextL q r = match r.drop (skipB false r) with
    | [] => .none
    | c :: t => if c = 34 then match q (c :: t) with
        | .ok n => .tok (skipB false r) n 5 ((c :: t).take n)
        | .text => .err (skipB false r) 20
        | .err a e => .err (skipB false r + a) e
      else if (pick (c :: t)).1 = 0 then .err (skipB false r) 60
      else .tok (skipB false r) (pick (c :: t)).1 (pick (c :: t)).2 (if (pick (c :: t)).2 = 2 ∨ (pick (c :: t)).2 = 3 then ((c :: t).take (pick (c :: t)).1).drop 1 else (c :: t).take (pick (c :: t)).1) := by
  unfold nextL
  cases r.drop (skipB false r) with
  | nil => rfl
  | cons c t =>
    dsimp only []
    split
    · rfl
    · unfold pick
      dsimp only []
      split
      · rename_i hc
        have h1 := nameL_pos (t := t) hc
        rw [if_neg (by dsimp only []; omega)] <;> rfl
      · split
        · rw [if_neg (by dsimp only []; omega)]
          rw [if_pos (.inl rfl), Nat.add_comm, List.take_succ_cons] <;> rfl
        · split
          · rw [if_neg (by dsimp only []; omega)]
            rw [if_pos (.inr rfl), Nat.add_comm, List.take_succ_cons] <;> rfl
          · split
            · rename_i hd
              have h1 := numberL_pos (t := t) hd
              rw [if_neg (by dsimp only []; omega)] <;> rfl
            · split
              · rfl
              · rename_i h1
                rw [if_neg (by dsimp only []; omega)] <;> rfl
end Go.Tk
