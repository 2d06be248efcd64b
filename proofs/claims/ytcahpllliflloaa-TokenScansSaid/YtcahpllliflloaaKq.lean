/- The longest token at a place is the one that is found byte by byte. No program stands here. -/
import Derived.Test.YtcahpllliflloaaKp
set_option linter.unusedVariables false
set_option linter.unusedSimpArgs false
namespace Go.Tk

/-! ### What the document's answer asks of a text -/
def isName : Bs → Bool
  | [] => false
  | c :: t => isLetter c && t.all isIn
def allDigits (s : Bs) : Bool := !s.isEmpty && s.all isDigit
def isE (c : UInt8) : Bool := decide (c = 101) || decide (c = 69)
def cutHead (p : UInt8 → Bool) (s : Bs) : Bs := s.takeWhile (fun c => !p c)
def isNumber (s : Bs) : Bool :=
  let head := cutHead isE s
  let pw := s.drop (head.length + 1)
  let whole := cutHead (fun c => decide (c = 46)) head
  let frac := head.drop (whole.length + 1)
  (decide (head.length = s.length) || allDigits (pw.drop (plusL pw))) && (allDigits whole && (decide (whole.length = head.length) || allDigits frac))
def isSign (s : Bs) : Bool := decide (s ∈ twos) || (match s with | [c] => decide (c ∈ ones) | _ => false) || decide (s = [47, 47, 61])
def plainK (s : Bs) : Nat :=
  if isName s then 1 else if s.head? = some 36 ∧ isName (s.drop 1) then 2 else if s.head? = some 46 ∧ isName (s.drop 1) then 3
  else if isNumber s then 4 else if isSign s then 6 else 0
def isLong (c : UInt8) : Bool := isLetter c || isDigit c || decide (c = 46) || decide (c = 43) || decide (c = 45) || decide (c = 61) || decide (c = 47)
def longL : Bs → Nat
  | [] => 0
  | c :: t => 1 + (t.takeWhile isLong).length
/-- The longest beginning, of at most n bytes, that is one: its length and its kind. -/
def longest (r : Bs) : Nat → Nat × Nat
  | 0 => (0, 0)
  | n + 1 => if plainK (r.take (n + 1)) = 0 then longest r n else (n + 1, plainK (r.take (n + 1)))

/-! ### Runs -/
theorem tw_take (p : UInt8 → Bool) : ∀ (n : Nat) (t : Bs), ((t.take n).takeWhile p).length = min n (t.takeWhile p).length
  | 0, t => by simp
  | n + 1, [] => by simp
  | n + 1, c :: t => by
    have := tw_take p n t
    simp only [List.take_succ_cons, List.takeWhile_cons]
    split
    · simp only [List.length_cons, this]; omega
    · simp
theorem tw_all {p : UInt8 → Bool} {s : Bs} (h : s.all p = true) : (s.takeWhile p).length = s.length := by
  induction s with
  | nil => rfl
  | cons c t ih =>
    simp only [List.all_cons, Bool.and_eq_true] at h
    simp [List.takeWhile_cons, h.1, ih h.2]
theorem tw_all_iff {p : UInt8 → Bool} : ∀ {s : Bs}, s.all p = true ↔ (s.takeWhile p).length = s.length
  | [] => by simp
  | c :: t => by
    have ih := tw_all_iff (p := p) (s := t)
    simp only [List.all_cons, Bool.and_eq_true, List.takeWhile_cons]
    cases hp : p c with
    | true => simp [ih]
    | false => simp
theorem runL_take (n : Nat) (t : Bs) : runL (t.take n) = min n (runL t) := tw_take _ _ _
theorem nameL_take (n : Nat) (t : Bs) : nameL (t.take n) = min n (nameL t) := by
  cases n with
  | zero => simp [nameL]
  | succ n =>
    cases t with
    | nil => simp [nameL]
    | cons c t =>
      simp only [List.take_succ_cons, nameL]
      split
      · rw [tw_take]; omega
      · simp
theorem isName_iff (s : Bs) : isName s = true ↔ 0 < s.length ∧ nameL s = s.length := by
  cases s with
  | nil => simp [isName]
  | cons c t =>
    have h := tw_all_iff (p := isIn) (s := t)
    simp only [isName, Bool.and_eq_true, nameL, List.length_cons]
    constructor
    · rintro ⟨h1, h2⟩
      rw [if_pos h1, h.1 h2]; omega
    · rintro ⟨_, h2⟩
      split at h2
      · rename_i h1
        exact ⟨h1, h.2 (by omega)⟩
      · omega
theorem isName_take {r : Bs} {n : Nat} (h0 : 1 ≤ n) (hn : n ≤ r.length) : isName (r.take n) = true ↔ n ≤ nameL r := by
  rw [isName_iff, nameL_take, List.length_take]
  omega
theorem allDigits_iff (s : Bs) : allDigits s = true ↔ 0 < s.length ∧ runL s = s.length := by
  have h := tw_all_iff (p := isDigit) (s := s)
  simp only [allDigits, Bool.and_eq_true, Bool.not_eq_true', List.isEmpty_eq_false_iff]
  rw [h]
  cases s <;> simp [runL]

/-! ### Numbers -/
theorem runL_dig_append : ∀ (d x : Bs), d.all isDigit = true → runL (d ++ x) = d.length + runL x
  | [], x, _ => by simp
  | c :: d, x, h => by
    simp only [List.all_cons, Bool.and_eq_true] at h
    have := runL_dig_append d x h.2
    simp only [runL] at this ⊢
    simp only [List.cons_append, List.takeWhile_cons, h.1, if_true, List.length_cons, this]
    omega
theorem runL_take_all (s : Bs) : (s.take (runL s)).all isDigit = true := by
  have e : s.take (runL s) = s.takeWhile isDigit := by
    have := List.takeWhile_append_dropWhile (p := isDigit) (l := s)
    have h2 : s.take (runL s) = (s.takeWhile isDigit ++ s.dropWhile isDigit).take (runL s) := by rw [this]
    rw [h2]; unfold runL; rw [List.take_left]
  rw [e]; exact List.all_takeWhile
theorem runL_zero {c : UInt8} {t : Bs} (h : isDigit c = false) : runL (c :: t) = 0 := by simp [runL, h]
/-- Behind a run stands no digit. -/
theorem runL_drop (s : Bs) : runL (s.drop (runL s)) = 0 := by
  have e := runL_dig_append (s.take (runL s)) (s.drop (runL s)) (runL_take_all s)
  rw [List.take_append_drop, List.length_take] at e
  have := runL_le s
  omega
theorem cut_none {p : UInt8 → Bool} {s : Bs} (h : s.all (fun c => !p c) = true) : cutHead p s = s := by
  unfold cutHead
  induction s with
  | nil => rfl
  | cons c t ih => simp only [List.all_cons, Bool.and_eq_true] at h; simp [List.takeWhile_cons, h.1]; exact ih h.2
theorem cut_at {p : UInt8 → Bool} {a x : Bs} {c : UInt8} (h : a.all (fun c => !p c) = true) (hc : p c = true) : cutHead p (a ++ c :: x) = a := by
  unfold cutHead
  induction a with
  | nil => simp [hc]
  | cons d t ih => simp only [List.all_cons, Bool.and_eq_true] at h; simp only [List.cons_append, List.takeWhile_cons, h.1, if_true]; rw [ih h.2]
/-- A text is what stands ahead of a cut, and perhaps the rest behind it. -/
theorem cut_split (p : UInt8 → Bool) : ∀ s : Bs, (cutHead p s = s ∧ s.all (fun c => !p c) = true) ∨ ∃ a c x, s = a ++ c :: x ∧ a.all (fun c => !p c) = true ∧ p c = true
  | [] => .inl ⟨rfl, rfl⟩
  | c :: t => by
    cases hp : p c with
    | true => exact .inr ⟨[], c, t, rfl, rfl, hp⟩
    | false =>
      rcases cut_split p t with ⟨h1, h2⟩ | ⟨a, d, x, rfl, h2, h3⟩
      · left
        refine ⟨?_, by simp [hp, h2]⟩
        exact cut_none (by simp [hp, h2])
      · exact .inr ⟨c :: a, d, x, rfl, by simp [hp, h2], h3⟩
theorem all_imp {p q : UInt8 → Bool} {s : Bs} (h : s.all p = true) (hi : ∀ c, p c = true → q c = true) : s.all q = true := by
  rw [List.all_eq_true] at h ⊢; exact fun c hc => hi c (h c hc)
theorem dig_notE {c : UInt8} (h : isDigit c = true) : (!isE c) = true := by
  simp only [isDigit, Bool.and_eq_true, decide_eq_true_eq] at h
  simp only [isE, Bool.not_eq_true', Bool.or_eq_false_iff, decide_eq_false_iff_not]
  constructor <;> rintro rfl <;> simp at h
theorem dig_notP {c : UInt8} (h : isDigit c = true) : (!decide (c = 46)) = true := by
  simp only [isDigit, Bool.and_eq_true, decide_eq_true_eq] at h
  simp only [Bool.not_eq_true', decide_eq_false_iff_not]
  rintro rfl; simp at h
theorem E_notdig {c : UInt8} (h : isE c = true) : isDigit c = false := by
  cases hd : isDigit c with
  | false => rfl
  | true => have := dig_notE hd; rw [h] at this; cases this
/-- The number that a text begins with, told by its head (without a power). -/
def headOk (h : Bs) : Bool := allDigits (cutHead (fun c => decide (c = 46)) h) && (decide ((cutHead (fun c => decide (c = 46)) h).length = h.length) || allDigits (h.drop ((cutHead (fun c => decide (c = 46)) h).length + 1)))
theorem headOk_cases {h : Bs} (hh : headOk h = true) : (∃ d, d.all isDigit = true ∧ 0 < d.length ∧ h = d) ∨ ∃ d f, d.all isDigit = true ∧ 0 < d.length ∧ f.all isDigit = true ∧ 0 < f.length ∧ h = d ++ 46 :: f := by
  unfold headOk at hh
  rcases cut_split (fun c => decide (c = 46)) h with ⟨e, ha⟩ | ⟨a, c, x, rfl, ha, hc⟩
  · rw [e] at hh
    simp only [Bool.and_eq_true, allDigits_iff] at hh
    exact .inl ⟨h, tw_all_iff.2 hh.1.2, hh.1.1, rfl⟩
  · rw [cut_at ha hc] at hh
    have hc : c = 46 := by simpa using hc
    subst hc
    have e : (a ++ 46 :: x).drop (a.length + 1) = x := by
      rw [← List.drop_drop, List.drop_left]; rfl
    rw [e] at hh
    simp only [Bool.and_eq_true, Bool.or_eq_true, decide_eq_true_eq, allDigits_iff, List.length_append, List.length_cons] at hh
    obtain ⟨⟨h1, h2⟩, h3⟩ := hh
    rcases h3 with h3 | ⟨h3, h4⟩
    · omega
    · exact .inr ⟨a, x, tw_all_iff.2 h2, h1, tw_all_iff.2 h4, h3, rfl⟩
theorem headOk_dig {d : Bs} (hd : d.all isDigit = true) (h0 : 0 < d.length) : headOk d = true := by
  unfold headOk
  rw [cut_none (all_imp hd fun c => dig_notP)]
  simp only [Bool.and_eq_true, allDigits_iff]
  exact ⟨⟨h0, tw_all_iff.1 hd⟩, by simp⟩
theorem headOk_point {d f : Bs} (hd : d.all isDigit = true) (h0 : 0 < d.length) (hf : f.all isDigit = true) (h1 : 0 < f.length) : headOk (d ++ 46 :: f) = true := by
  unfold headOk
  rw [cut_at (all_imp hd fun c => dig_notP) (by decide)]
  have e : (d ++ 46 :: f).drop (d.length + 1) = f := by rw [← List.drop_drop, List.drop_left]; rfl
  rw [e]
  simp only [Bool.and_eq_true, Bool.or_eq_true, allDigits_iff]
  exact ⟨⟨h0, tw_all_iff.1 hd⟩, .inr ⟨h1, tw_all_iff.1 hf⟩⟩
theorem headOk_notE {h : Bs} (hh : headOk h = true) : h.all (fun c => !isE c) = true := by
  rcases headOk_cases hh with ⟨d, hd, _, rfl⟩ | ⟨d, f, hd, _, hf, _, rfl⟩
  · exact all_imp hd fun c => dig_notE
  · rw [List.all_append, List.all_cons, all_imp hd fun c => dig_notE, all_imp hf fun c => dig_notE]; rfl
theorem isNumber_eq (s : Bs) : isNumber s = ((decide ((cutHead isE s).length = s.length) || allDigits ((s.drop ((cutHead isE s).length + 1)).drop (plusL (s.drop ((cutHead isE s).length + 1))))) && headOk (cutHead isE s)) := rfl
theorem isNumber_cases {s : Bs} (h : isNumber s = true) : headOk s = true ∨ ∃ hd c t, s = hd ++ c :: t ∧ headOk hd = true ∧ isE c = true ∧ 0 < (t.drop (plusL t)).length ∧ (t.drop (plusL t)).all isDigit = true := by
  rw [isNumber_eq, Bool.and_eq_true] at h
  rcases cut_split isE s with ⟨e, ha⟩ | ⟨a, c, x, rfl, ha, hc⟩
  · rw [e] at h; exact .inl h.2
  · rw [cut_at ha hc] at h
    have e : (a ++ c :: x).drop (a.length + 1) = x := by rw [← List.drop_drop, List.drop_left]; rfl
    rw [e] at h
    simp only [Bool.or_eq_true, decide_eq_true_eq, allDigits_iff, List.length_append, List.length_cons] at h
    rcases h.1 with h1 | ⟨h1, h2⟩
    · omega
    · exact .inr ⟨a, c, x, rfl, h.2, hc, h1, tw_all_iff.2 h2⟩
theorem isNumber_head {s : Bs} (h : headOk s = true) : isNumber s = true := by
  rw [isNumber_eq, cut_none (headOk_notE h), h]; simp
theorem isNumber_power {hd t : Bs} {c : UInt8} (h : headOk hd = true) (hc : isE c = true) (h0 : 0 < (t.drop (plusL t)).length) (ht : (t.drop (plusL t)).all isDigit = true) : isNumber (hd ++ c :: t) = true := by
  rw [isNumber_eq, cut_at (headOk_notE h) hc, h]
  have e : (hd ++ c :: t).drop (hd.length + 1) = t := by rw [← List.drop_drop, List.drop_left]; rfl
  rw [e]
  simp only [Bool.and_true, Bool.or_eq_true, allDigits_iff]
  exact .inr ⟨h0, tw_all_iff.1 ht⟩

/-- The head's length, ahead of what is no digit and no point with a digit. -/
def pointAt (s : Bs) : Nat := pointL (runL s) (s.drop (runL s))
theorem numberL_pointAt (s : Bs) : numberL s = if runL s = 0 then 0 else powerL (pointAt s) (s.drop (pointAt s)) := rfl
theorem pointAt_head {h : Bs} (hh : headOk h = true) {x : Bs} (hx : x = [] ∨ ∃ c y, x = c :: y ∧ isE c = true) : pointAt (h ++ x) = h.length ∧ 0 < runL (h ++ x) := by
  have hx0 : runL x = 0 := by rcases hx with rfl | ⟨c, y, rfl, hc⟩; rfl; exact runL_zero (E_notdig hc)
  have hxp : pointL h.length x = h.length := by
    rcases hx with rfl | ⟨c, y, rfl, hc⟩
    · rfl
    · simp only [pointL]; rw [if_neg]; rintro ⟨rfl, _⟩; simp [isE] at hc
  rcases headOk_cases hh with ⟨d, hd, h0, rfl⟩ | ⟨d, f, hd, h0, hf, h1, rfl⟩
  · have e := runL_dig_append h x hd
    rw [hx0] at e
    unfold pointAt
    rw [e, Nat.add_zero, List.drop_left]
    exact ⟨hxp, h0⟩
  · have e := runL_dig_append d (46 :: (f ++ x)) hd
    rw [runL_zero (by decide)] at e
    have ef := runL_dig_append f x hf
    rw [hx0] at ef
    unfold pointAt
    have e2 : d ++ 46 :: f ++ x = d ++ 46 :: (f ++ x) := by simp
    rw [e2, e, Nat.add_zero, List.drop_left]
    refine ⟨?_, h0⟩
    simp only [pointL]
    rw [if_pos ⟨trivial, by omega⟩, ef, List.length_append, List.length_cons]; omega
theorem numberL_of_isNumber {s : Bs} (h : isNumber s = true) : numberL s = s.length := by
  rw [numberL_pointAt]
  rcases isNumber_cases h with h | ⟨hd, c, t, rfl, h, hc, h0, ht⟩
  · obtain ⟨h1, h2⟩ := pointAt_head h (.inl rfl)
    rw [List.append_nil] at h1 h2
    rw [if_neg (by omega), h1, List.drop_length]; rfl
  · obtain ⟨h1, h2⟩ := pointAt_head h (.inr ⟨c, t, rfl, hc⟩)
    rw [if_neg (by omega), h1, List.drop_left]
    have hr : runL (t.drop (plusL t)) = (t.drop (plusL t)).length := tw_all_iff.1 ht
    have hc' : c = 101 ∨ c = 69 := by simpa [isE] using hc
    have hp := plusL_le t
    simp only [powerL]
    rw [if_pos ⟨hc', by omega⟩, hr, List.length_drop, List.length_append, List.length_cons]
    omega
/-- What is found is a number. -/
theorem isNumber_numberL {s : Bs} (h : 0 < runL s) : isNumber (s.take (numberL s)) = true := by
  have hd := runL_take_all s
  have hdl : (s.take (runL s)).length = runL s := by rw [List.length_take]; have := runL_le s; omega
  have hle := numberL_le s
  have key : headOk (s.take (pointAt s)) = true := by
    unfold pointAt
    cases hx : s.drop (runL s) with
    | nil =>
      show headOk (s.take (runL s)) = true
      exact headOk_dig hd (by omega)
    | cons c t =>
      simp only [pointL]
      split
      · rename_i hc
        obtain ⟨rfl, h1⟩ := hc
        have e : s.take (runL s + 1 + runL t) = s.take (runL s) ++ 46 :: t.take (runL t) := by
          rw [Nat.add_assoc, List.take_add, hx, Nat.add_comm 1, List.take_succ_cons]
        rw [e]
        exact headOk_point hd (by omega) (runL_take_all t) (by rw [List.length_take]; have := runL_le t; omega)
      · exact headOk_dig hd (by omega)
  rw [numberL_pointAt] at hle ⊢
  rw [if_neg (by omega)] at hle ⊢
  cases hx : s.drop (pointAt s) with
  | nil => exact isNumber_head key
  | cons c t =>
    simp only [powerL]
    split
    · rename_i hc
      obtain ⟨hc, h1⟩ := hc
      have e : s.take (pointAt s + 1 + plusL t + runL (t.drop (plusL t))) = s.take (pointAt s) ++ c :: (t.take (plusL t + runL (t.drop (plusL t)))) := by
        rw [Nat.add_assoc, Nat.add_assoc, List.take_add, hx, Nat.add_comm 1, List.take_succ_cons]
      rw [e]
      have hpl : plusL (t.take (plusL t + runL (t.drop (plusL t)))) = plusL t := by
        cases t with
        | nil => rfl
        | cons u t =>
          have : plusL (u :: t) + runL ((u :: t).drop (plusL (u :: t))) = (plusL (u :: t) + runL ((u :: t).drop (plusL (u :: t))) - 1) + 1 := by omega
          rw [this, List.take_succ_cons]; rfl
      have hrl := runL_le (t.drop (plusL t))
      refine isNumber_power key (by simpa [isE] using hc) ?_ ?_
      · rw [hpl, List.drop_take, List.length_take]; omega
      · rw [hpl, List.drop_take, Nat.add_sub_cancel_left]; exact runL_take_all _
    · exact isNumber_head key
theorem runL_cons_zero {c : UInt8} {t : Bs} (h : runL (c :: t) = 0) : isDigit c = false := by
  cases hd : isDigit c with
  | false => rfl
  | true => have := runL_pos (t := t) hd; omega
/-- What is found does not hang on what stands behind it, where that is cut off or is no part of it. -/
theorem pointL_take (k n : Nat) (x : Bs) (h : pointL k x ≤ k + n) : pointL k (x.take n) = pointL k x := by
  cases n with
  | zero =>
    rw [List.take_zero]
    have := (pointL_bd (n := k) (r := x)).1
    show k = _; omega
  | succ n =>
    cases x with
    | nil => rfl
    | cons c t =>
      rw [List.take_succ_cons]
      simp only [pointL] at h ⊢
      rw [runL_take]
      split at h
      · rename_i hc
        rw [if_pos hc]
        have : min n (runL t) = runL t := by omega
        rw [this, if_pos hc]
      · rename_i hc
        rw [if_neg hc, if_neg]
        rintro ⟨h1, h2⟩
        exact hc ⟨h1, by omega⟩
theorem powerL_take (k n : Nat) (x : Bs) (h : powerL k x ≤ k + n) : powerL k (x.take n) = powerL k x := by
  cases n with
  | zero =>
    rw [List.take_zero]
    have := (powerL_bd (n := k) (r := x)).1
    show k = _; omega
  | succ n =>
    cases x with
    | nil => rfl
    | cons c t =>
      rw [List.take_succ_cons]
      simp only [powerL] at h ⊢
      split at h
      · rename_i hc
        rw [if_pos hc]
        have hpl : plusL (t.take n) = plusL t := by
          cases n with
          | zero => omega
          | succ n => cases t with
            | nil => rfl
            | cons u t => rfl
        rw [hpl, List.drop_take, runL_take]
        have : min (n - plusL t) (runL (t.drop (plusL t))) = runL (t.drop (plusL t)) := by omega
        rw [this, if_pos hc]
      · rename_i hc
        rw [if_neg hc, if_neg]
        rintro ⟨h1, h2⟩
        refine hc ⟨h1, ?_⟩
        cases n with
        | zero => simp [runL] at h2
        | succ n =>
          cases t with
          | nil => simp [runL] at h2
          | cons u t =>
            have hpl : plusL ((u :: t).take (n + 1)) = plusL (u :: t) := rfl
            rw [hpl, List.drop_take, runL_take] at h2
            omega
theorem numberL_take {s : Bs} {n : Nat} (h : numberL s ≤ n) (h0 : 0 < runL s) : numberL (s.take n) = numberL s := by
  rw [numberL_pointAt] at h
  rw [if_neg (by omega)] at h
  have hp := (pointL_bd (n := runL s) (r := s.drop (runL s))).1
  have hq := (powerL_bd (n := pointAt s) (r := s.drop (pointAt s))).1
  have hpa : pointAt s = pointL (runL s) (s.drop (runL s)) := rfl
  have hr : runL (s.take n) = runL s := by rw [runL_take]; omega
  have hpt : pointAt (s.take n) = pointAt s := by
    unfold pointAt
    rw [hr, List.drop_take]
    exact pointL_take _ _ _ (by omega)
  rw [numberL_pointAt, numberL_pointAt, hr, if_neg (by omega), if_neg (by omega), hpt, List.drop_take]
  exact powerL_take _ _ _ (by omega)
theorem isNumber_take {r : Bs} {n : Nat} (h : isNumber (r.take n) = true) (hn : n ≤ r.length) : n ≤ numberL r ∧ 0 < runL r := by
  have h1 := numberL_of_isNumber h
  rw [List.length_take, Nat.min_eq_left hn] at h1
  have h0 : 0 < runL (r.take n) := by
    rcases Nat.eq_zero_or_pos (runL (r.take n)) with h2 | h2
    · rw [numberL_pointAt, if_pos h2] at h1
      subst h1
      simp [isNumber, cutHead, allDigits] at h
    · exact h2
  rw [runL_take] at h0
  refine ⟨?_, by omega⟩
  rcases Nat.lt_or_ge (numberL r) n with h2 | h2
  · rw [numberL_take (by omega) (by omega)] at h1; omega
  · exact h2

/-! ### Signs -/
theorem isSign_take {r : Bs} {n : Nat} (hn : n ≤ r.length) (h : isSign (r.take n) = true) : n ≤ signL r := by
  unfold isSign at h
  simp only [Bool.or_eq_true, decide_eq_true_eq] at h
  have hlen : (r.take n).length = n := by rw [List.length_take]; omega
  rcases h with (h | h) | h
  · have h2 : (r.take n).length = 2 := by
      have : ∀ x ∈ twos, x.length = 2 := by decide
      exact this _ h
    have : n = 2 := by omega
    subst this
    unfold signL
    split
    · omega
    · first | omega | (rw [if_pos h]; omega)
  · cases hr : r.take n with
    | nil => rw [hr] at h; cases h
    | cons c t =>
      rw [hr] at h
      cases t with
      | cons d t => cases h
      | nil =>
        rw [hr] at hlen
        have hn1 : n = 1 := by simpa using hlen.symm
        subst hn1
        cases r with
        | nil => simp at hr
        | cons c' r =>
          simp at hr
          subst hr
          have h : c' ∈ ones := by simpa using h
          unfold signL
          split
          · omega
          · split
            · omega
            · dsimp only []
              rw [if_pos h]; omega
  · have h3 := congrArg List.length h
    rw [hlen] at h3
    have : n = 3 := h3
    subst this
    unfold signL
    rw [if_pos h]; omega
theorem isSign_signL {r : Bs} (h : 0 < signL r) : isSign (r.take (signL r)) = true := by
  unfold signL at h ⊢
  split
  · rename_i h1; rw [h1]; decide
  · rename_i h1
    rw [if_neg h1] at h
    split
    · rename_i h2; unfold isSign; simp [h2]
    · rename_i h2
      rw [if_neg h2] at h
      cases r with
      | nil => simp at h
      | cons c t =>
        dsimp only [] at h ⊢
        split
        · rename_i h3
          simp [isSign, h3]
        · rename_i h3
          rw [if_neg h3] at h; omega
end Go.Tk
