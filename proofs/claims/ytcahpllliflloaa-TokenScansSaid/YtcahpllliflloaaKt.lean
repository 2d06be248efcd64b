/- Tokens: the plain laws of covers, joins, blanks. No program stands here. -/
import Derived.Test.YtcahpllliflloaaKs
set_option linter.unusedVariables false
set_option linter.unusedSimpArgs false
namespace Go.Tk
theorem scanR_bd : ∀ (f p : Nat) (r : Bs) (l : List (Nat × Bs × Nat)), r.length < f → scanR p r = .ok l → l.length ≤ r.length ∧ ∀ x ∈ l, x.2.2 < p + r.length
  | 0, p, r, l, hf, h => by omega
  | f + 1, p, r, l, hf, h => by
    cases hx : nextD 48 r with
    | none => rw [scanR_none hx] at h; injection h with h; subst h; simp
    | err a e => rw [scanR_err hx] at h; cases h
    | tok sk n k t =>
      have hb := nextD_ok 48 _ _ _ _ _ hx
      rw [scanR_step hx] at h
      cases hr : scanR (p + (sk + n)) (r.drop (sk + n)) with
      | err a e => rw [hr] at h; cases h
      | ok m =>
        rw [hr] at h; injection h with h; subst h
        have ih := scanR_bd f _ _ _ (by rw [List.length_drop]; omega) hr
        rw [List.length_drop] at ih
        refine ⟨by simp only [List.length_cons]; omega, fun x hx => ?_⟩
        rcases List.mem_cons.1 hx with rfl | hx
        · show p + sk < _; omega
        · have := ih.2 x hx; omega
theorem scanL_bd {s : Bs} {l : List (Nat × Bs × Nat)} (h : scanL s = .ok l) : s.length ≤ 16384 ∧ l.length ≤ s.length ∧ ∀ x ∈ l, x.2.2 < s.length := by
  rcases Nat.lt_or_ge 16384 s.length with hb | hb
  · unfold scanL at h; rw [if_pos hb] at h; cases h
  · rw [scanL_eq hb] at h
    have := scanR_bd _ _ _ _ (Nat.lt_succ_self _) h
    simp only [Nat.zero_add] at this
    exact ⟨hb, this⟩
theorem scanR_cons {p : Nat} {r : Bs} {x : Nat × Bs × Nat} {l : List (Nat × Bs × Nat)} (h : scanR p r = .ok (x :: l)) : ∃ sk n k t, nextD 48 r = .tok sk n k t ∧ x = (k, t, p + sk) ∧ scanR (p + (sk + n)) (r.drop (sk + n)) = .ok l := by
  cases hx : nextD 48 r with
  | none => rw [scanR_none hx] at h; cases h
  | err a e => rw [scanR_err hx] at h; cases h
  | tok sk n k t =>
    rw [scanR_step hx] at h
    cases hr : scanR (p + (sk + n)) (r.drop (sk + n)) with
    | err a e => rw [hr] at h; cases h
    | ok m =>
      rw [hr] at h; injection h with h; injection h with h1 h2
      exact ⟨sk, n, k, t, rfl, h1.symm, by rw [← h2]; exact hr⟩
theorem scanR_nil {p : Nat} {r : Bs} (h : scanR p r = .ok []) : nextD 48 r = .none := by
  cases hx : nextD 48 r with
  | none => rfl
  | err a e => rw [scanR_err hx] at h; cases h
  | tok sk n k t =>
    rw [scanR_step hx] at h
    cases hr : scanR (p + (sk + n)) (r.drop (sk + n)) with
    | err a e => rw [hr] at h; cases h
    | ok m => rw [hr] at h; injection h with h; cases h
theorem nextD_sk {d sk n k : Nat} {r t : Bs} (h : nextD d r = .tok sk n k t) : skipB false r = sk := by
  unfold nextD at h
  rw [nextL_pick] at h
  split at h
  · cases h
  · split at h
    · split at h
      · injection h
      · cases h
      · cases h
    · split at h
      · cases h
      · injection h
theorem skipB_take : ∀ (r : Bs) (b : Bool) (n : Nat), n ≤ skipB b r → skipB b (r.take n) = n
  | [], b, n, h => by
    have : n = 0 := by cases b <;> simpa [skipB] using h
    subst this; cases b <;> rfl
  | c :: t, b, 0, h => by cases b <;> rfl
  | c :: t, true, n + 1, h => by
    simp only [List.take_succ_cons, skipB] at h ⊢
    split
    · rename_i hc; rw [if_pos hc] at h; rw [skipB_take t false n (by omega)]; omega
    · rename_i hc; rw [if_neg hc] at h; rw [skipB_take t true n (by omega)]; omega
  | c :: t, false, n + 1, h => by
    simp only [List.take_succ_cons, skipB] at h ⊢
    split
    · rename_i hc; rw [if_pos hc] at h; rw [skipB_take t false n (by omega)]; omega
    · rename_i hc
      rw [if_neg hc] at h
      split
      · rename_i hc; rw [if_pos hc] at h; rw [skipB_take t true n (by omega)]; omega
      · rename_i hc; rw [if_neg hc] at h; omega
theorem skipB_note : ∀ (m s : Bs), (∀ c ∈ m, c ≠ 10) → skipB true (m ++ 10 :: s) = m.length + 1 + skipB false s
  | [], s, _ => by simp [skipB]
  | c :: m, s, h => by
    have hc : ¬ c = 10 := h c List.mem_cons_self
    simp only [List.cons_append, skipB, if_neg hc, List.length_cons]
    rw [skipB_note m s fun d hd => h d (List.mem_cons_of_mem _ hd)]; omega
/-- What is let by ahead of a text. -/
def aheadL (m : Bs) : Bs := 32 :: 9 :: 35 :: (m ++ [10])
theorem ahead_skip {m : Bs} (s : Bs) (h : ∀ c ∈ m, c ≠ 10) : skipB false (aheadL m ++ s) = (aheadL m).length + skipB false s := by
  have e : aheadL m ++ s = 32 :: 9 :: 35 :: (m ++ 10 :: s) := by simp [aheadL]
  rw [e]
  have hl : (aheadL m).length = m.length + 4 := by simp [aheadL]
  rw [hl]
  simp only [skipB]
  rw [skipB_note m s h]
  simp [isBlank]
  omega
theorem scan_blanks {m s : Bs} (h : ∀ c ∈ m, c ≠ 10) (hm : m.length ≤ 1000) (hs : s.length ≤ 1000) : scanL (aheadL m ++ s) = (scanL s).on (aheadL m).length := by
  have hl : (aheadL m).length = m.length + 4 := by simp [aheadL]
  rw [scanL_eq (by rw [List.length_append]; omega), scanL_eq (by omega), scanR_ahead rfl (ahead_skip s h), Nat.zero_add]
  exact scanR_shift _ _ 0 s (Nat.lt_succ_self _)
theorem scan_joins {a b : Bs} (ha : a.length ≤ 1000) (hb : b.length ≤ 1000) : match scanL a with
    | .ok l => scanL (a ++ 10 :: b) = ((scanL b).on (a.length + 1)).app l
    | .err q e => e ≠ 20 → scanL (a ++ 10 :: b) = .err q e := by
  have h := scanR_join (b := b) _ 0 a (Nat.lt_succ_self _)
  rw [scanL_eq (by omega), scanL_eq (by rw [List.length_append, List.length_cons]; omega), scanL_eq (by omega)]
  have e : scanR (a.length + 1) b = (scanR 0 b).on (a.length + 1) := scanR_shift _ _ 0 b (Nat.lt_succ_self _)
  rw [Nat.zero_add, e] at h
  exact h
theorem scanL_err {s : Bs} {a e : Nat} (h : scanL s = .err a e) (hs : s.length ≤ 16384) : a < s.length := by
  rw [scanL_eq hs] at h
  have := (scanR_errAt _ _ _ _ _ (Nat.lt_succ_self _) h).2
  omega
end Go.Tk
