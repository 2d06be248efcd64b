/- Tokens: the parts of a text with filters in it, as plain functions. No program stands here. -/
import Derived.Test.YtcahpllliflloaaKt
set_option linter.unusedVariables false
set_option linter.unusedSimpArgs false
namespace Go.Tk
def slc (q : Bs) (a b : Nat) : Bs := (q.take b).drop a
abbrev Pa := List Bs × List Bs × List Nat
def partsF (nx : Bs → Nx) (q : Bs) : Nat → Nat → Nat → Pa
  | 0, _, _ => ([], [], [])
  | f + 1, a, k => if k < q.length - 1 then
      if q.getD k 0 = 92 then
        if q.getD (k + 1) 0 = 40 then match innerL nx (q.drop (k + 2)) 1 with
          | .ok m => (slc q a k :: (partsF nx q f (k + 2 + m) (k + 2 + m)).1, slc q (k + 2) (k + 2 + m - 1) :: (partsF nx q f (k + 2 + m) (k + 2 + m)).2.1, (k + 2) :: (partsF nx q f (k + 2 + m) (k + 2 + m)).2.2)
          | _ => ([], [], [])
        else partsF nx q f a (k + 2)
      else partsF nx q f a (k + 1)
    else ([slc q a (q.length - 1)], [], [])
def partsR (nx : Bs → Nx) (q : Bs) (a k : Nat) : Pa := partsF nx q (q.length - k + 1) a k
theorem partsF_fuel {nx : Bs → Nx} (hok : NOk nx) (q : Bs) : ∀ (f g a k : Nat), q.length - k < f → q.length - k < g → partsF nx q f a k = partsF nx q g a k
  | 0, _, a, k, h, _ => by omega
  | _ + 1, 0, a, k, _, h => by omega
  | f + 1, g + 1, a, k, hf, hg => by
    simp only [partsF]
    split
    · split
      · split
        · cases hi : innerL nx (q.drop (k + 2)) 1 with
          | ok m =>
            have := innerL_ok hok hi
            dsimp only []
            rw [partsF_fuel hok q f g _ _ (by omega) (by omega)]
          | text => rfl
          | err a e => rfl
        · exact partsF_fuel hok q f g _ _ (by omega) (by omega)
      · exact partsF_fuel hok q f g _ _ (by omega) (by omega)
    · rfl
def Pa.put (x y : Bs) (n : Nat) (r : Pa) : Pa := (x :: r.1, y :: r.2.1, n :: r.2.2)
theorem partsR_end {nx : Bs → Nx} {q : Bs} {a k : Nat} (h : ¬ k < q.length - 1) : partsR nx q a k = ([slc q a (q.length - 1)], [], []) := by
  simp only [partsR, partsF, if_neg h]
theorem partsR_plain {nx : Bs → Nx} (hok : NOk nx) {q : Bs} {a k : Nat} (h : k < q.length - 1) (hc : q.getD k 0 ≠ 92) : partsR nx q a k = partsR nx q a (k + 1) := by
  rw [partsR, partsF, if_pos h, if_neg hc]
  exact partsF_fuel hok q _ _ _ _ (by omega) (by omega)
theorem partsR_back {nx : Bs → Nx} (hok : NOk nx) {q : Bs} {a k : Nat} (h : k < q.length - 1) (hc : q.getD k 0 = 92) (hd : q.getD (k + 1) 0 ≠ 40) : partsR nx q a k = partsR nx q a (k + 2) := by
  rw [partsR, partsF, if_pos h, if_pos hc, if_neg hd]
  exact partsF_fuel hok q _ _ _ _ (by omega) (by omega)
theorem partsR_in {nx : Bs → Nx} (hok : NOk nx) {q : Bs} {a k m : Nat} (h : k < q.length - 1) (hc : q.getD k 0 = 92) (hd : q.getD (k + 1) 0 = 40) (hi : innerL nx (q.drop (k + 2)) 1 = .ok m) :
    partsR nx q a k = (partsR nx q (k + 2 + m) (k + 2 + m)).put (slc q a k) (slc q (k + 2) (k + 2 + m - 1)) (k + 2) := by
  have := innerL_ok hok hi
  rw [partsR, partsF, if_pos h, if_pos hc, if_pos hd, hi]
  dsimp only []
  rw [partsF_fuel hok q (q.length - k) (q.length - (k + 2 + m) + 1) _ _ (by omega) (by omega)]
  rfl
/-- A text with filters in it, all of it. -/
def Whole (q : Bs) : Prop := q.length ≤ 16384 ∧ (∃ t, q = 34 :: t) ∧ quoteL 48 q = .ok q.length
theorem whole_scan {q : Bs} (h : Whole q) : scanL q = .ok [(5, q, 0)] := by
  obtain ⟨h1, ⟨t, rfl⟩, h3⟩ := h
  rw [scanL_eq h1]
  have hn : nextD 48 (34 :: t) = .tok 0 (34 :: t).length 5 (34 :: t) := by
    unfold nextD
    rw [nextL_pick]
    have e : skipB false (34 :: t) = 0 := by simp [skipB, isBlank]
    rw [e, List.drop_zero]
    dsimp only []
    rw [if_pos rfl, h3]
    dsimp only []
    rw [List.take_length]
  have e0 : (34 :: t).drop (0 + (34 :: t).length) = [] := List.drop_eq_nil_of_le (by omega)
  rw [scanR_step hn, e0]
  rfl
theorem scan_whole {q : Bs} {x : Nat × Bs × Nat} (h : scanL q = .ok [x]) (hk : x.1 = 5) (hl : x.2.1.length = q.length) : Whole q := by
  have hb := (scanL_bd h).1
  rw [scanL_eq hb] at h
  obtain ⟨sk, n, k, t, hn, rfl, _⟩ := scanR_cons h
  have hk : k = 5 := hk
  have hl : t.length = q.length := hl
  have hok := nextD_ok 48 _ _ _ _ _ hn
  have hz := (nextD_size hn).1
  subst hk
  rw [if_neg (by omega)] at hz
  have hsk : sk = 0 := by omega
  subst hsk
  have hs := nextD_sk hn
  unfold nextD at hn
  rw [nextL_pick, hs, List.drop_zero] at hn
  cases q with
  | nil => have := hok.2.1; simp only [List.length_nil] at this; omega
  | cons c u =>
    dsimp only [] at hn
    split at hn
    · rename_i hc
      subst hc
      cases hq : quoteL 48 (34 :: u) with
      | ok m =>
        rw [hq] at hn
        injection hn with h1 h2
        refine ⟨hb, ⟨u, rfl⟩, ?_⟩
        rw [hq]; congr 1; omega
      | text => rw [hq] at hn; cases hn
      | err a e => rw [hq] at hn; cases hn
    · split at hn
      · cases hn
      · injection hn with h1 h2 h3
        exfalso
        revert h3
        unfold pick
        dsimp only []
        repeat' split
        all_goals simp
theorem whole_inner {q : Bs} (h : Whole q) : quoteR (nextD 47) (q.drop 1) = .ok (q.length - 1) ∧ 2 ≤ q.length := by
  obtain ⟨h1, ⟨t, rfl⟩, h3⟩ := h
  have e : quoteL 48 (34 :: t) = (quoteR (nextD 47) ((34 :: t).drop 1)).on 1 := rfl
  rw [e] at h3
  cases hq : quoteR (nextD 47) ((34 :: t).drop 1) with
  | ok m =>
    rw [hq] at h3
    injection h3 with h3
    have := (quoteF_ok (nextD_ok 47) _ _ _ hq).1
    refine ⟨?_, by omega⟩
    congr 1; omega
  | text => rw [hq] at h3; cases h3
  | err a e => rw [hq] at h3; cases h3
/-- What a place within such a text may be. -/
inductive At47 (q : Bs) (k : Nat) : Prop
  | last (h : k = q.length - 1)
  | plain (h : k < q.length - 1) (hc : q.getD k 0 ≠ 92) (hn : quoteR (nextD 47) (q.drop (k + 1)) = .ok (q.length - (k + 1)))
  | back (h : k + 2 < q.length) (hc : q.getD k 0 = 92) (hd : q.getD (k + 1) 0 ≠ 40) (hn : quoteR (nextD 47) (q.drop (k + 2)) = .ok (q.length - (k + 2)))
  | inn (m : Nat) (h : k + 2 + m < q.length) (h1 : 1 ≤ m) (hc : q.getD k 0 = 92) (hd : q.getD (k + 1) 0 = 40) (hi : innerL (nextD 47) (q.drop (k + 2)) 1 = .ok m) (hn : quoteR (nextD 47) (q.drop (k + 2 + m)) = .ok (q.length - (k + 2 + m)))
theorem at47 {q : Bs} {k : Nat} (hk : k < q.length) (h : quoteR (nextD 47) (q.drop k) = .ok (q.length - k)) : At47 q k := by
  have hok := nextD_ok 47
  have hg : ∀ j (c : UInt8) (u : Bs), q.drop j = c :: u → q.getD j 0 = c ∧ q.drop (j + 1) = u ∧ u.length = q.length - (j + 1) := fun j c u hu => by
    have hj : j < q.length := by
      rcases Nat.lt_or_ge j q.length with h' | h'
      · exact h'
      · rw [List.drop_eq_nil_of_le h'] at hu; cases hu
    have hd : q.drop (j + 1) = u := by
      rw [List.drop_eq_getElem_cons hj] at hu; injection hu
    refine ⟨?_, hd, by rw [← hd, List.length_drop]⟩
    rw [List.drop_eq_getElem_cons hj] at hu
    injection hu with h1 _
    rw [← h1]; simp [List.getD_eq_getElem?_getD, hj]
  cases hd : q.drop k with
  | nil => have := List.drop_eq_nil_iff.1 hd; omega
  | cons c u =>
    obtain ⟨g1, g2, g3⟩ := hg k c u hd
    rw [hd] at h
    by_cases h34 : c = 34
    · subst h34
      rw [quoteR_end] at h
      injection h with h
      exact .last (by omega)
    by_cases h92 : c = 92
    · subst h92
      cases u with
      | nil => rw [quoteR_last] at h; cases h
      | cons d v =>
        obtain ⟨k1, k2, k3⟩ := hg (k + 1) d v g2
        by_cases hd40 : d = 40
        · subst hd40
          rw [quoteR_in hok] at h
          cases hi : innerL (nextD 47) v 1 with
          | ok m =>
            rw [hi] at h
            dsimp only [] at h
            have hb := innerL_ok hok hi
            have e : q.drop (k + 2 + m) = v.drop m := by rw [← List.drop_drop]; congr 1
            cases hq : quoteR (nextD 47) (v.drop m) with
            | ok i =>
              rw [hq] at h; injection h with h
              have hi1 := (quoteF_ok hok _ _ _ hq).1
              exact .inn m (by omega) hb.1 g1 k1 (by rw [show k + 2 = k + 1 + 1 from rfl, k2]; exact hi) (by rw [e, hq]; congr 1; omega)
            | text => rw [hq] at h; cases h
            | err a e => rw [hq] at h; cases h
          | text => rw [hi] at h; cases h
          | err a e => rw [hi] at h; cases h
        · rw [quoteR_back hok hd40] at h
          cases hq : quoteR (nextD 47) v with
          | ok i =>
            rw [hq] at h; injection h with h
            have hi1 := (quoteF_ok hok _ _ _ hq).1
            exact .back (by omega) g1 (by rw [k1]; exact hd40) (by rw [show k + 2 = k + 1 + 1 from rfl, k2, hq]; congr 1; omega)
          | text => rw [hq] at h; cases h
          | err a e => rw [hq] at h; cases h
    · rw [quoteR_plain hok h34 h92] at h
      cases hq : quoteR (nextD 47) u with
      | ok i =>
        rw [hq] at h; injection h with h
        have hi1 := (quoteF_ok hok _ _ _ hq).1
        exact .plain (by omega) (by rw [g1]; exact h92) (by rw [g2, hq]; congr 1; omega)
      | text => rw [hq] at h; cases h
      | err a e => rw [hq] at h; cases h
theorem partsR_bd {q : Bs} : ∀ (f a k : Nat), q.length - k < f → k < q.length → quoteR (nextD 47) (q.drop k) = .ok (q.length - k) →
    (partsR (nextD 47) q a k).1.length ≤ q.length - k ∧ (partsR (nextD 47) q a k).2.1.length = (partsR (nextD 47) q a k).2.2.length ∧ (partsR (nextD 47) q a k).2.2.length ≤ q.length - k
  | 0, a, k, hf, _, _ => by omega
  | f + 1, a, k, hf, hk, h => by
    have hok := nextD_ok 47
    cases at47 hk h with
    | last h1 => rw [partsR_end (by omega)]; simp; omega
    | plain h1 hc hn =>
      rw [partsR_plain hok h1 hc]
      have := partsR_bd f a (k + 1) (by omega) (by omega) hn
      omega
    | back h1 hc hd hn =>
      rw [partsR_back hok (by omega) hc hd]
      have := partsR_bd f a (k + 2) (by omega) (by omega) hn
      omega
    | inn m h1 h2 hc hd hi hn =>
      rw [partsR_in hok (by omega) hc hd hi]
      have := partsR_bd f (k + 2 + m) (k + 2 + m) (by omega) (by omega) hn
      simp only [Pa.put, List.length_cons]
      omega
end Go.Tk
