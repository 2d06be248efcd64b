/- What tokens do not hang on: what stands behind them. No program stands here. -/
import Derived.Test.YtcahpllliflloaaKr
set_option linter.unusedVariables false
set_option linter.unusedSimpArgs false
namespace Go.Tk
/-- Nothing, or a line feed and whatever. -/
def Stop (x : Bs) : Prop := x = [] ∨ ∃ y, x = 10 :: y
theorem tw_stop {p : UInt8 → Bool} (hp : p 10 = false) {x x' : Bs} (hx : Stop x') : ∀ u : Bs, ((u ++ x).takeWhile p).length ≤ u.length → ((u ++ x').takeWhile p).length = ((u ++ x).takeWhile p).length
  | [], h => by
    have h : (x.takeWhile p).length ≤ 0 := h
    have e : ((([] : Bs) ++ x').takeWhile p).length = 0 := by rcases hx with rfl | ⟨y, rfl⟩ <;> simp [hp]
    have e2 : ([] : Bs) ++ x = x := rfl
    rw [e, e2]; omega
  | c :: u, h => by
    simp only [List.cons_append, List.takeWhile_cons] at h ⊢
    split
    · rename_i hc
      rw [if_pos hc] at h
      simp only [List.length_cons] at h ⊢
      rw [tw_stop (x := x) hp hx u (by omega)]
    · rfl
theorem runL_stop {x x' : Bs} (hx : Stop x') (u : Bs) (h : runL (u ++ x) ≤ u.length) : runL (u ++ x') = runL (u ++ x) := tw_stop (by decide) hx u h
theorem nameL_stop {x x' : Bs} (hx : Stop x') (u : Bs) (h : nameL (u ++ x) ≤ u.length) : nameL (u ++ x') = nameL (u ++ x) := by
  cases u with
  | nil =>
    have h : nameL x ≤ 0 := h
    show nameL x' = nameL x
    have : nameL x' = 0 := by rcases hx with rfl | ⟨y, rfl⟩ <;> rfl
    omega
  | cons c u =>
    simp only [List.cons_append, nameL, List.length_cons] at h ⊢
    split
    · rename_i hc
      rw [if_pos hc] at h
      rw [tw_stop (x := x) (by decide) hx u (by omega)]
    · rfl
theorem pointL_stop {x x' : Bs} (hx : Stop x') (k : Nat) (u : Bs) (h : pointL k (u ++ x) ≤ k + u.length) : pointL k (u ++ x') = pointL k (u ++ x) := by
  cases u with
  | nil =>
    have h : pointL k x ≤ k := by simpa using h
    have h2 := (pointL_bd (n := k) (r := x)).1
    show pointL k x' = pointL k x
    have : pointL k x' = k := by
      rcases hx with rfl | ⟨y, rfl⟩
      · rfl
      · simp only [pointL]; rw [if_neg]; rintro ⟨h, _⟩; exact absurd h (by decide)
    omega
  | cons c u =>
    simp only [List.cons_append, pointL, List.length_cons] at h ⊢
    by_cases hc : c = 46 ∧ 0 < runL (u ++ x)
    · rw [if_pos hc] at h ⊢
      rw [runL_stop (x := x) hx u (by omega), if_pos hc]
    · rw [if_neg hc] at h ⊢
      rw [if_neg]
      rintro ⟨h1, h2⟩
      have h3 : runL (u ++ x) = 0 := by
        rcases Nat.eq_zero_or_pos (runL (u ++ x)) with h | h
        · exact h
        · exact absurd ⟨h1, h⟩ hc
      rw [runL_stop (x := x) hx u (by omega)] at h2
      omega
theorem plusL_stop {x x' : Bs} {c : UInt8} {u : Bs} : plusL (c :: u ++ x') = plusL (c :: u ++ x) := rfl
theorem powerL_stop {x x' : Bs} (hx : Stop x') (k : Nat) (u : Bs) (h : powerL k (u ++ x) ≤ k + u.length) : powerL k (u ++ x') = powerL k (u ++ x) := by
  cases u with
  | nil =>
    have h : powerL k x ≤ k := by simpa using h
    have h2 := (powerL_bd (n := k) (r := x)).1
    show powerL k x' = powerL k x
    have : powerL k x' = k := by
      rcases hx with rfl | ⟨y, rfl⟩
      · rfl
      · simp only [powerL]; rw [if_neg]; rintro ⟨h, _⟩; exact absurd h (by decide)
    omega
  | cons c u =>
    simp only [List.cons_append, powerL, List.length_cons] at h ⊢
    cases u with
    | nil =>
      simp only [List.nil_append] at h ⊢
      have e : runL (x'.drop (plusL x')) = 0 := by
        rcases hx with rfl | ⟨y, rfl⟩ <;> rfl
      rw [e, if_neg (by omega)]
      split
      · rename_i hc
        rw [if_pos hc] at h
        simp at h; omega
      · rfl
    | cons d u =>
      rw [plusL_stop (x := x) (x' := x')]
      have hd : ∀ z : Bs, (d :: u ++ z).drop (plusL (d :: u ++ x)) = (d :: u).drop (plusL (d :: u ++ x)) ++ z := fun z => by
        have : plusL (d :: u ++ x) ≤ (d :: u).length := by
          have h1 : plusL (d :: u ++ x) = plusL (d :: u) := rfl
          rw [h1]; exact plusL_le _
        exact List.drop_append_of_le_length this
      rw [hd x] at h ⊢
      have h3 : ((d :: u).drop (plusL (d :: u ++ x))).length = u.length + 1 - plusL (d :: u ++ x) := by rw [List.length_drop]; rfl
      by_cases hc : (c = 101 ∨ c = 69) ∧ 0 < runL ((d :: u).drop (plusL (d :: u ++ x)) ++ x)
      · rw [if_pos hc] at h ⊢
        simp only [List.length_cons] at h
        rw [hd x', runL_stop (x := x) hx _ (by omega), if_pos hc]
      · rw [if_neg hc] at h ⊢
        rw [hd x', if_neg]
        rintro ⟨h1, h2⟩
        have h4 : runL ((d :: u).drop (plusL (d :: u ++ x)) ++ x) = 0 := by
          rcases Nat.eq_zero_or_pos (runL ((d :: u).drop (plusL (d :: u ++ x)) ++ x)) with h | h
          · exact h
          · exact absurd ⟨h1, h⟩ hc
        rw [runL_stop (x := x) hx _ (by omega)] at h2
        omega
theorem drop_app {u x : Bs} {n : Nat} (h : n ≤ u.length) : (u ++ x).drop n = u.drop n ++ x := List.drop_append_of_le_length h
theorem numberL_stop {x x' : Bs} (hx : Stop x') (u : Bs) (h0 : 0 < runL (u ++ x)) (h : numberL (u ++ x) ≤ u.length) : numberL (u ++ x') = numberL (u ++ x) := by
  rw [numberL_pointAt, if_neg (by omega)] at h
  have hp := (pointL_bd (n := runL (u ++ x)) (r := (u ++ x).drop (runL (u ++ x)))).1
  have hq := (powerL_bd (n := pointAt (u ++ x)) (r := (u ++ x).drop (pointAt (u ++ x)))).1
  have hpa : pointAt (u ++ x) = pointL (runL (u ++ x)) ((u ++ x).drop (runL (u ++ x))) := rfl
  have hr : runL (u ++ x') = runL (u ++ x) := runL_stop hx u (by omega)
  have hpt : pointAt (u ++ x') = pointAt (u ++ x) := by
    unfold pointAt
    rw [hr, drop_app (by omega), drop_app (by omega)]
    refine pointL_stop hx _ _ ?_
    rw [← drop_app (by omega), List.length_drop]; omega
  rw [numberL_pointAt, numberL_pointAt, hr, if_neg (by omega), if_neg (by omega), hpt, drop_app (by omega), drop_app (by omega)]
  refine powerL_stop hx _ _ ?_
  rw [← drop_app (by omega), List.length_drop]; omega
theorem take_app {u x : Bs} {n : Nat} (h : n ≤ u.length) : (u ++ x).take n = u.take n := List.take_append_of_le_length h
theorem stop_two {c : UInt8} {x : Bs} (hx : Stop x) : (c :: x).take 2 ∉ twos := by
  rcases hx with rfl | ⟨y, rfl⟩
  · intro h
    have : ∀ x ∈ twos, x.length = 2 := by decide
    have := this _ h
    simp at this
  · intro h
    have h : [c, 10] ∈ twos := h
    have : ∀ x ∈ twos, x.drop 1 ≠ [10] := by decide
    exact this _ h rfl
theorem stop_three {u x : Bs} (hx : Stop x) (h : u.length < 3) (h0 : 0 < u.length) : (u ++ x).take 3 ≠ [47, 47, 61] := by
  match u, h, h0 with
  | [a], _, _ =>
    rcases hx with rfl | ⟨y, rfl⟩
    · simp
    · simp
  | [a, b], _, _ =>
    rcases hx with rfl | ⟨y, rfl⟩
    · simp
    · simp
theorem signL_stop {x x' : Bs} (hx : Stop x') {u : Bs} (h0 : 0 < u.length) (h : signL (u ++ x) ≤ u.length) : signL (u ++ x') = signL (u ++ x) := by
  cases u with
  | nil => simp at h0
  | cons c u =>
    have h3 : ((c :: u ++ x').take 3 = [47, 47, 61]) ↔ ((c :: u ++ x).take 3 = [47, 47, 61]) := by
      rcases Nat.lt_or_ge (c :: u).length 3 with hl | hl
      · refine ⟨fun h => absurd h (stop_three hx hl h0), fun h' => ?_⟩
        unfold signL at h
        rw [if_pos h'] at h; omega
      · rw [take_app hl, take_app hl]
    have h2 : (c :: u ++ x').take 3 ≠ [47, 47, 61] → (((c :: u ++ x').take 2 ∈ twos) ↔ ((c :: u ++ x).take 2 ∈ twos)) := fun h4 => by
      rcases Nat.lt_or_ge (c :: u).length 2 with hl | hl
      · cases u with
        | nil =>
          refine ⟨fun h => absurd h (stop_two hx), fun h' => ?_⟩
          unfold signL at h
          rw [if_neg (fun h5 => h4 (h3.2 h5)), if_pos h'] at h
          simp at h
        | cons d u => simp at hl; omega
      · rw [take_app hl, take_app hl]
    unfold signL
    by_cases h4 : (c :: u ++ x').take 3 = [47, 47, 61]
    · rw [if_pos h4, if_pos (h3.1 h4)]
    · rw [if_neg h4, if_neg (fun h5 => h4 (h3.2 h5))]
      by_cases h5 : (c :: u ++ x').take 2 ∈ twos
      · rw [if_pos h5, if_pos ((h2 h4).1 h5)]
      · rw [if_neg h5, if_neg (fun h6 => h5 ((h2 h4).2 h6))]; rfl
theorem pick_stop {x x' : Bs} (hx : Stop x') {u : Bs} (h0 : 0 < u.length) (h : (pick (u ++ x)).1 ≤ u.length) : pick (u ++ x') = pick (u ++ x) := by
  cases u with
  | nil => simp at h0
  | cons c t =>
    have hn0 : nameL (t ++ x) = 0 → nameL (t ++ x') = 0 := fun h => by rw [nameL_stop (x := x) hx t (by omega), h]
    simp only [List.cons_append, pick] at h ⊢
    split
    · rename_i hc
      rw [if_pos hc] at h
      have := nameL_stop (x := x) hx (c :: t) h
      simp only [List.cons_append] at this
      rw [this]
    · rename_i hc
      rw [if_neg hc] at h
      have name : ∀ k : UInt8, c = k ∧ 0 < nameL (t ++ x) → 1 + nameL (t ++ x) ≤ (c :: t).length → nameL (t ++ x') = nameL (t ++ x) := fun k h1 h2 => nameL_stop hx t (by simp only [List.length_cons] at h2; omega)
      by_cases h36 : c = 36 ∧ 0 < nameL (t ++ x)
      · rw [if_pos h36] at h ⊢
        rw [name 36 h36 h, if_pos h36]
      · have h36' : ¬ (c = 36 ∧ 0 < nameL (t ++ x')) := fun h' => by
          rcases Nat.eq_zero_or_pos (nameL (t ++ x)) with h0 | h0
          · have := hn0 h0; omega
          · exact h36 ⟨h'.1, h0⟩
        rw [if_neg h36] at h ⊢
        rw [if_neg h36']
        by_cases h46 : c = 46 ∧ 0 < nameL (t ++ x)
        · rw [if_pos h46] at h ⊢
          rw [name 46 h46 h, if_pos h46]
        · have h46' : ¬ (c = 46 ∧ 0 < nameL (t ++ x')) := fun h' => by
            rcases Nat.eq_zero_or_pos (nameL (t ++ x)) with h0 | h0
            · have := hn0 h0; omega
            · exact h46 ⟨h'.1, h0⟩
          rw [if_neg h46] at h ⊢
          rw [if_neg h46']
          split
          · rename_i hd
            rw [if_pos hd] at h
            have := numberL_stop (x := x) hx (c :: t) (by have := runL_pos (t := t ++ x) hd; simp only [List.cons_append]; omega) h
            simp only [List.cons_append] at this
            rw [this]
          · rename_i hd
            rw [if_neg hd] at h
            have := signL_stop (x := x) hx (u := c :: t) (by simp) (by
              simp only [List.cons_append]
              split at h
              · rename_i h1; rw [h1]; omega
              · exact h)
            simp only [List.cons_append] at this
            rw [this]
theorem skipB_stop {x x' : Bs} : ∀ (u : Bs) (b : Bool), skipB b (u ++ x) < u.length → skipB b (u ++ x') = skipB b (u ++ x)
  | [], b, h => by simp at h
  | c :: u, true, h => by
    simp only [List.cons_append, skipB, List.length_cons] at h ⊢
    split
    · rename_i hc; rw [if_pos hc] at h; rw [skipB_stop (x := x) u false (by omega)]
    · rename_i hc; rw [if_neg hc] at h; rw [skipB_stop (x := x) u true (by omega)]
  | c :: u, false, h => by
    simp only [List.cons_append, skipB, List.length_cons] at h ⊢
    split
    · rename_i hc; rw [if_pos hc] at h; rw [skipB_stop (x := x) u false (by omega)]
    · rename_i hc
      rw [if_neg hc] at h
      split
      · rename_i hc; rw [if_pos hc] at h; rw [skipB_stop (x := x) u true (by omega)]
      · rfl
/-- All of it is let by, and a line feed. -/
theorem skipB_all {y : Bs} : ∀ (u : Bs) (b : Bool), skipB b u = u.length → skipB b (u ++ 10 :: y) = u.length + 1 + skipB false y
  | [], true, _ => by simp [skipB]
  | [], false, _ => by simp [skipB, isBlank]
  | c :: u, true, h => by
    simp only [List.cons_append, skipB, List.length_cons] at h ⊢
    split
    · rename_i hc; rw [if_pos hc] at h; rw [skipB_all u false (by omega)]; omega
    · rename_i hc; rw [if_neg hc] at h; rw [skipB_all u true (by omega)]; omega
  | c :: u, false, h => by
    simp only [List.cons_append, skipB, List.length_cons] at h ⊢
    split
    · rename_i hc; rw [if_pos hc] at h; rw [skipB_all u false (by omega)]; omega
    · rename_i hc
      rw [if_neg hc] at h
      split
      · rename_i hc; rw [if_pos hc] at h; rw [skipB_all u true (by omega)]; omega
      · rename_i hc; rw [if_neg hc] at h; omega
/-- Behind what is let by nothing is let by. -/
theorem skipB_drop : ∀ (r : Bs) (b : Bool), skipB false (r.drop (skipB b r)) = 0
  | [], b => by cases b <;> rfl
  | c :: t, true => by
    simp only [skipB]
    split
    · rw [Nat.add_comm, List.drop_succ_cons]; exact skipB_drop t false
    · rw [Nat.add_comm, List.drop_succ_cons]; exact skipB_drop t true
  | c :: t, false => by
    simp only [skipB]
    split
    · rw [Nat.add_comm, List.drop_succ_cons]; exact skipB_drop t false
    · split
      · rw [Nat.add_comm, List.drop_succ_cons]; exact skipB_drop t true
      · rename_i h1 h2
        simp [skipB, h1, h2]

/-! ### What is found is found whatever stands behind it -/
def QStop (q : Bs → Q) : Prop := ∀ (u x x' : Bs) (n : Nat), Stop x' → q (u ++ x) = .ok n → n ≤ u.length → q (u ++ x') = .ok n
def NStop (nx : Bs → Nx) : Prop := ∀ (u x x' : Bs) (sk n k : Nat) (t : Bs), Stop x' → nx (u ++ x) = .tok sk n k t → sk + n ≤ u.length → nx (u ++ x') = .tok sk n k t
theorem next_stop {q : Bs → Q} (hq : QStop q) (hqo : QOk q) : NStop (nextL q) := by
  intro u x x' sk n k t hx h hl
  have hok := next_ok hqo _ _ _ _ _ h
  rw [nextL_pick] at h ⊢
  have hsk : skipB false (u ++ x) = sk := by
    split at h
    · cases h
    · split at h
      · split at h <;> cases h; rfl
      · split at h
        · cases h
        · injection h
  have hs' : skipB false (u ++ x') = sk := by rw [skipB_stop (x := x) u false (by omega), hsk]
  rw [hsk] at h
  rw [hs']
  have hd : ∀ z : Bs, (u ++ z).drop sk = u.drop sk ++ z := fun z => drop_app (by omega)
  rw [hd] at h ⊢
  have hlen : (u.drop sk).length = u.length - sk := List.length_drop
  generalize hv : u.drop sk = v at h hlen
  cases v with
  | nil => simp at hlen; omega
  | cons c v =>
    simp only [List.cons_append] at h
    rw [List.cons_append]
    dsimp only []
    split at h
    · rename_i hc
      rw [if_pos hc]
      cases hqq : q (c :: (v ++ x)) with
      | ok m =>
        rw [hqq] at h
        dsimp only [] at h
        injection h with h1 h2 h3 h4
        have := hq (c :: v) x x' m hx hqq (by omega)
        rw [List.cons_append] at this
        rw [this]
        dsimp only []
        rw [← h4, ← h3, h2, ← List.cons_append, ← List.cons_append, take_app (by omega), take_app (by omega)]
      | text => rw [hqq] at h; cases h
      | err a e => rw [hqq] at h; cases h
    · rename_i hc
      rw [if_neg hc]
      split at h
      · cases h
      · rename_i hp
        injection h with h1 h2 h3 h4
        have hps := pick_stop (x := x) hx (u := c :: v) (by simp) (by rw [List.cons_append]; omega)
        rw [List.cons_append, List.cons_append] at hps
        rw [hps, if_neg hp, h2, h3]
        rw [h2, h3] at h4
        rw [← h4]
        congr 1
        rw [← List.cons_append, ← List.cons_append, take_app (by omega), take_app (by omega)]
theorem inner_stop {nx : Bs → Nx} (hn : NStop nx) (hok : NOk nx) : ∀ (f : Nat) (u x x' : Bs) (o m : Nat), u.length < f → Stop x' → innerL nx (u ++ x) o = .ok m → m ≤ u.length → innerL nx (u ++ x') o = .ok m
  | 0, u, x, x', o, m, hf, hx, h, hm => by omega
  | f + 1, u, x, x', o, m, hf, hx, h, hm => by
    cases hxx : nx (u ++ x) with
    | err a e => rw [innerL_err hxx] at h; cases h
    | none => rw [innerL_none hxx] at h; cases h
    | tok sk n k t =>
      have hb := hok _ _ _ _ _ hxx
      rw [innerL_step hok hxx] at h
      split at h
      · rename_i h0
        injection h with h
        have := hn u x x' sk n k t hx hxx (by omega)
        rw [innerL_step hok this, if_pos h0, h]
      · rename_i h0
        cases hi : innerL nx ((u ++ x).drop (sk + n)) (opens o k t) with
        | ok j =>
          rw [hi] at h
          injection h with h
          have := hn u x x' sk n k t hx hxx (by omega)
          rw [innerL_step hok this, if_neg h0]
          rw [drop_app (by omega)] at hi ⊢
          rw [inner_stop hn hok f (u.drop (sk + n)) x x' _ j (by rw [List.length_drop]; omega) hx hi (by rw [List.length_drop]; omega)]
          rw [← h]; rfl
        | text => rw [hi] at h; cases h
        | err a e => rw [hi] at h; cases h
theorem quoteR_stop {nx : Bs → Nx} (hn : NStop nx) (hok : NOk nx) : ∀ (f : Nat) (u x x' : Bs) (m : Nat), u.length < f → Stop x' → quoteR nx (u ++ x) = .ok m → m ≤ u.length → quoteR nx (u ++ x') = .ok m
  | 0, u, x, x', m, hf, hx, h, hm => by omega
  | f + 1, u, x, x', m, hf, hx, h, hm => by
    have hmp : 1 ≤ m := (quoteF_ok hok _ _ _ h).1
    cases u with
    | nil => simp at hm; omega
    | cons c u =>
      simp only [List.length_cons] at hf hm
      rw [List.cons_append] at h ⊢
      by_cases h34 : c = 34
      · subst h34; rw [quoteR_end] at h ⊢; exact h
      by_cases h92 : c = 92
      · subst h92
        cases u with
        | nil =>
          exfalso
          simp only [List.nil_append, List.length_nil] at h hm
          cases x with
          | nil => rw [quoteR_last] at h; cases h
          | cons d x =>
            by_cases hd : d = 40
            · subst hd
              rw [quoteR_in hok] at h
              cases hi : innerL nx x 1 with
              | ok j =>
                rw [hi] at h; dsimp only [] at h
                cases hq : quoteR nx (x.drop j) with
                | ok i => rw [hq] at h; injection h with h; omega
                | text => rw [hq] at h; cases h
                | err a e => rw [hq] at h; cases h
              | text => rw [hi] at h; cases h
              | err a e => rw [hi] at h; cases h
            · rw [quoteR_back hok hd] at h
              cases hq : quoteR nx x with
              | ok i => rw [hq] at h; injection h with h; omega
              | text => rw [hq] at h; cases h
              | err a e => rw [hq] at h; cases h
        | cons d u =>
          simp only [List.length_cons] at hf hm
          rw [List.cons_append] at h ⊢
          by_cases hd : d = 40
          · subst hd
            rw [quoteR_in hok] at h ⊢
            cases hi : innerL nx (u ++ x) 1 with
            | ok j =>
              have hjl := (innerL_ok hok hi).2
              rw [hi] at h; dsimp only [] at h
              cases hq : quoteR nx ((u ++ x).drop j) with
              | ok i =>
                rw [hq] at h; injection h with h
                rw [inner_stop hn hok _ u x x' 1 j (Nat.lt_succ_self _) hx hi (by omega)]
                dsimp only []
                rw [drop_app (by omega)] at hq ⊢
                rw [quoteR_stop hn hok f (u.drop j) x x' i (by rw [List.length_drop]; omega) hx hq (by rw [List.length_drop]; omega)]
                rw [← h]; rfl
              | text => rw [hq] at h; cases h
              | err a e => rw [hq] at h; cases h
            | text => rw [hi] at h; cases h
            | err a e => rw [hi] at h; cases h
          · rw [quoteR_back hok hd] at h ⊢
            cases hq : quoteR nx (u ++ x) with
            | ok i =>
              rw [hq] at h; injection h with h
              rw [quoteR_stop hn hok f u x x' i (by omega) hx hq (by omega), ← h]; rfl
            | text => rw [hq] at h; cases h
            | err a e => rw [hq] at h; cases h
      · rw [quoteR_plain hok h34 h92] at h ⊢
        cases hq : quoteR nx (u ++ x) with
        | ok i =>
          rw [hq] at h; injection h with h
          rw [quoteR_stop hn hok f u x x' i (by omega) hx hq (by omega), ← h]; rfl
        | text => rw [hq] at h; cases h
        | err a e => rw [hq] at h; cases h
theorem quoteL_stop : ∀ d, QStop (quoteL d)
  | 0 => fun u x x' n hx h _ => by cases h
  | d + 1 => fun u x x' n hx h hn => by
    have hok := next_ok (quoteL_ok d)
    have hst := next_stop (quoteL_stop d) (quoteL_ok d)
    simp only [quoteL] at h ⊢
    cases hq : quoteR (nextL (quoteL d)) ((u ++ x).drop 1) with
    | ok m =>
      rw [hq] at h; injection h with h
      rw [drop_app (by omega)] at hq ⊢
      rw [quoteR_stop hst hok _ (u.drop 1) x x' m (Nat.lt_succ_self _) hx hq (by rw [List.length_drop]; omega), ← h]; rfl
    | text => rw [hq] at h; cases h
    | err a e => rw [hq] at h; cases h
theorem nextD_stop (d : Nat) : NStop (nextD d) := next_stop (quoteL_stop d) (quoteL_ok d)

/-! ### What is wrong is wrong whatever stands behind it, but for texts that do not end -/
def QErr (q : Bs → Q) : Prop := ∀ (u y : Bs) (a e : Nat), e ≠ 20 → q u = .err a e → q (u ++ 10 :: y) = .err a e
def NErr' (nx : Bs → Nx) : Prop := ∀ (u y : Bs) (a e : Nat), e ≠ 20 → nx u = .err a e → nx (u ++ 10 :: y) = .err a e
theorem stop10 (y : Bs) : Stop (10 :: y) := .inr ⟨y, rfl⟩
theorem next_errs {q : Bs → Q} (hq : QErr q) : NErr' (nextL q) := by
  intro u y a e he h
  rw [nextL_pick] at h ⊢
  have hsk : skipB false u < u.length := by
    rcases Nat.lt_or_ge (skipB false u) u.length with h1 | h1
    · exact h1
    · rw [List.drop_eq_nil_of_le h1] at h; cases h
  have hs' : skipB false (u ++ 10 :: y) = skipB false u := by
    have := skipB_stop (x := []) (x' := 10 :: y) u false (by rw [List.append_nil]; exact hsk)
    rw [List.append_nil] at this; exact this
  rw [hs', drop_app (by omega)]
  have hlen : (u.drop (skipB false u)).length = u.length - skipB false u := List.length_drop
  generalize hv : u.drop (skipB false u) = v at h hlen
  cases v with
  | nil => simp at hlen; omega
  | cons c v =>
    rw [List.cons_append]
    dsimp only [] at h ⊢
    split at h
    · rename_i hc
      rw [if_pos hc]
      cases hqq : q (c :: v) with
      | ok m => rw [hqq] at h; cases h
      | text => rw [hqq] at h; injection h with h1 h2; omega
      | err a' e' =>
        rw [hqq] at h
        injection h with h1 h2
        have := hq (c :: v) y a' e' (by omega) hqq
        rw [List.cons_append] at this
        rw [this, ← h1, ← h2]
    · rename_i hc
      rw [if_neg hc]
      split at h
      · rename_i hp
        have hps := pick_stop (x := []) (stop10 y) (u := c :: v) (by simp) (by rw [List.append_nil]; omega)
        rw [List.append_nil, List.cons_append] at hps
        rw [hps, if_pos hp]; exact h
      · cases h
theorem inner_errs {nx : Bs → Nx} (hn : NStop nx) (hne : NErr' nx) (hok : NOk nx) : ∀ (f : Nat) (u y : Bs) (o a e : Nat), u.length < f → e ≠ 20 → innerL nx u o = .err a e → innerL nx (u ++ 10 :: y) o = .err a e
  | 0, u, y, o, a, e, hf, he, h => by omega
  | f + 1, u, y, o, a, e, hf, he, h => by
    cases hx : nx u with
    | err a' e' =>
      rw [innerL_err hx] at h
      injection h with h1 h2
      have := hne u y a' e' (by omega) hx
      rw [innerL_err this, h1, h2]
    | none => rw [innerL_none hx] at h; cases h
    | tok sk n k t =>
      have hb := hok _ _ _ _ _ hx
      rw [innerL_step hok hx] at h
      have := hn u [] (10 :: y) sk n k t (stop10 y) (by rw [List.append_nil]; exact hx) (by omega)
      rw [innerL_step hok this]
      split at h
      · cases h
      · rename_i h0
        rw [if_neg h0, drop_app (by omega)]
        cases hi : innerL nx (u.drop (sk + n)) (opens o k t) with
        | ok j => rw [hi] at h; cases h
        | text => rw [hi] at h; cases h
        | err a' e' =>
          rw [hi] at h
          injection h with h1 h2
          rw [inner_errs hn hne hok f (u.drop (sk + n)) y _ a' e' (by rw [List.length_drop]; omega) (by omega) hi, ← h1, ← h2]; rfl
theorem quoteR_errs {nx : Bs → Nx} (hn : NStop nx) (hne : NErr' nx) (hok : NOk nx) : ∀ (f : Nat) (u y : Bs) (a e : Nat), u.length < f → e ≠ 20 → quoteR nx u = .err a e → quoteR nx (u ++ 10 :: y) = .err a e
  | 0, u, y, a, e, hf, he, h => by omega
  | f + 1, u, y, a, e, hf, he, h => by
    cases u with
    | nil => rw [quoteR_nil] at h; cases h
    | cons c u =>
      simp only [List.length_cons] at hf
      rw [List.cons_append]
      by_cases h34 : c = 34
      · subst h34; rw [quoteR_end] at h; cases h
      by_cases h92 : c = 92
      · subst h92
        cases u with
        | nil => rw [quoteR_last] at h; cases h
        | cons d u =>
          simp only [List.length_cons] at hf
          rw [List.cons_append]
          by_cases hd : d = 40
          · subst hd
            rw [quoteR_in hok] at h ⊢
            cases hi : innerL nx u 1 with
            | ok j =>
              have hjl := (innerL_ok hok hi).2
              rw [hi] at h; dsimp only [] at h
              have := inner_stop hn hok _ u [] (10 :: y) 1 j (Nat.lt_succ_self _) (stop10 y) (by rw [List.append_nil]; exact hi) (by omega)
              rw [this]
              dsimp only []
              rw [drop_app (by omega)]
              cases hq : quoteR nx (u.drop j) with
              | ok i => rw [hq] at h; cases h
              | text => rw [hq] at h; cases h
              | err a' e' =>
                rw [hq] at h; injection h with h1 h2
                rw [quoteR_errs hn hne hok f (u.drop j) y a' e' (by rw [List.length_drop]; omega) (by omega) hq, ← h1, ← h2]; rfl
            | text => rw [hi] at h; cases h
            | err a' e' =>
              rw [hi] at h; injection h with h1 h2
              rw [inner_errs hn hne hok _ u y 1 a' e' (Nat.lt_succ_self _) (by omega) hi]
              dsimp only []
              rw [← h1, ← h2]
          · rw [quoteR_back hok hd] at h ⊢
            cases hq : quoteR nx u with
            | ok i => rw [hq] at h; cases h
            | text => rw [hq] at h; cases h
            | err a' e' =>
              rw [hq] at h; injection h with h1 h2
              rw [quoteR_errs hn hne hok f u y a' e' (by omega) (by omega) hq, ← h1, ← h2]; rfl
      · rw [quoteR_plain hok h34 h92] at h ⊢
        cases hq : quoteR nx u with
        | ok i => rw [hq] at h; cases h
        | text => rw [hq] at h; cases h
        | err a' e' =>
          rw [hq] at h; injection h with h1 h2
          rw [quoteR_errs hn hne hok f u y a' e' (by omega) (by omega) hq, ← h1, ← h2]; rfl
theorem quoteL_errs : ∀ d (u y : Bs) (a e : Nat), 0 < u.length → e ≠ 20 → quoteL d u = .err a e → quoteL d (u ++ 10 :: y) = .err a e
  | 0, u, y, a, e, _, he, h => h
  | d + 1, u, y, a, e, h0, he, h => by
    have hok := next_ok (quoteL_ok d)
    have hst := next_stop (quoteL_stop d) (quoteL_ok d)
    have hqe : QErr (quoteL d) := fun u y a e he h => by
      cases u with
      | nil =>
        cases d with
        | zero => exact h
        | succ d => simp [quoteL, quoteR_nil, Q.on] at h
      | cons c u => exact quoteL_errs d (c :: u) y a e (by simp) he h
    have hne := next_errs hqe
    simp only [quoteL] at h ⊢
    cases hq : quoteR (nextL (quoteL d)) (u.drop 1) with
    | ok m => rw [hq] at h; cases h
    | text => rw [hq] at h; cases h
    | err a' e' =>
      rw [hq] at h; injection h with h1 h2
      rw [drop_app (by omega), quoteR_errs hst hne hok _ (u.drop 1) y a' e' (Nat.lt_succ_self _) (by omega) hq, ← h1, ← h2]; rfl
theorem quoteL_err : ∀ d, QErr (quoteL d) := fun d u y a e he h => by
  cases u with
  | nil =>
    cases d with
    | zero => exact h
    | succ d => simp [quoteL, quoteR_nil, Q.on] at h
  | cons c u => exact quoteL_errs d (c :: u) y a e (by simp) he h
theorem nextD_errs (d : Nat) : NErr' (nextD d) := next_errs (quoteL_err d)
theorem nextD_none {d : Nat} {u : Bs} (h : nextD d u = .none) : skipB false u = u.length := by
  unfold nextD at h
  rw [nextL_pick] at h
  have hl := skipB_le u false
  cases hd : u.drop (skipB false u) with
  | nil => have := List.drop_eq_nil_iff.1 hd; omega
  | cons c t =>
    rw [hd] at h
    dsimp only [] at h
    split at h
    · split at h <;> cases h
    · split at h <;> cases h
/-- More that is let by ahead. -/
theorem nextD_ahead {d j : Nat} {u r : Bs} (hj : j = u.length) (h : skipB false (u ++ r) = u.length + skipB false r) : nextD d (u ++ r) = match nextD d r with
    | .none => .none | .tok sk n k t => .tok (j + sk) n k t | .err a e => .err (j + a) e := by
  subst hj
  unfold nextD
  rw [nextL_pick, nextL_pick, h]
  have e : (u ++ r).drop (u.length + skipB false r) = r.drop (skipB false r) := by rw [← List.drop_drop, List.drop_left]
  rw [e]
  cases r.drop (skipB false r) with
  | nil => rfl
  | cons c t =>
    dsimp only []
    split
    · cases quoteL d (c :: t) <;> dsimp only [] <;> simp [Nat.add_assoc]
    · split <;> rfl

/-! ### Scan -/
def Sc.on (j : Nat) : Sc → Sc
  | .ok l => .ok (l.map fun x => (x.1, x.2.1, j + x.2.2)) | .err a e => .err (j + a) e
def Sc.app (l : List (Nat × Bs × Nat)) : Sc → Sc
  | .ok m => .ok (l ++ m) | .err a e => .err a e
theorem scanR_shift (j : Nat) : ∀ (f p : Nat) (r : Bs), r.length < f → scanR (j + p) r = (scanR p r).on j
  | 0, p, r, h => by omega
  | f + 1, p, r, h => by
    cases hx : nextD 48 r with
    | none => rw [scanR_none hx, scanR_none hx]; rfl
    | err a e => rw [scanR_err hx, scanR_err hx]; simp [Sc.on, Nat.add_assoc]
    | tok sk n k t =>
      have hb := nextD_ok 48 _ _ _ _ _ hx
      rw [scanR_step hx, scanR_step hx, Nat.add_assoc j p sk, Nat.add_assoc j p (sk + n), scanR_shift j f _ _ (by rw [List.length_drop]; omega)]
      cases scanR (p + (sk + n)) (r.drop (sk + n)) with
      | ok l => simp [Sc.on, Sc.put, Nat.add_assoc]
      | err a e => rfl
theorem scanR_ahead {p j : Nat} {u r : Bs} (hj : j = u.length) (h : skipB false (u ++ r) = u.length + skipB false r) : scanR p (u ++ r) = scanR (p + j) r := by
  have hn := nextD_ahead (d := 48) hj h
  cases hx : nextD 48 r with
  | none => rw [hx] at hn; rw [scanR_none hn, scanR_none hx]
  | err a e => rw [hx] at hn; rw [scanR_err hn, scanR_err hx, Nat.add_assoc]
  | tok sk n k t =>
    rw [hx] at hn
    rw [scanR_step hn, scanR_step hx]
    have e1 : p + (j + sk + n) = p + j + (sk + n) := by omega
    have e2 : (u ++ r).drop (j + sk + n) = r.drop (sk + n) := by rw [hj, Nat.add_assoc, ← List.drop_drop, List.drop_left]
    rw [e1, e2, Nat.add_assoc p j sk]
theorem scanR_join {b : Bs} : ∀ (f p : Nat) (a : Bs), a.length < f → match scanR p a with
    | .ok l => scanR p (a ++ 10 :: b) = (scanR (p + (a.length + 1)) b).app l
    | .err q e => e ≠ 20 → scanR p (a ++ 10 :: b) = .err q e
  | 0, p, a, h => by omega
  | f + 1, p, a, h => by
    cases hx : nextD 48 a with
    | none =>
      rw [scanR_none hx]
      dsimp only []
      have e : a ++ 10 :: b = (a ++ [10]) ++ b := by simp
      have hs : skipB false ((a ++ [10]) ++ b) = (a ++ [10]).length + skipB false b := by
        rw [← e, skipB_all a false (nextD_none hx), List.length_append]; rfl
      rw [e, scanR_ahead (j := a.length + 1) (by simp) hs]
      cases scanR (p + (a.length + 1)) b <;> rfl
    | err q e =>
      rw [scanR_err hx]
      intro he
      rw [scanR_err (nextD_errs 48 a b q e he hx)]
    | tok sk n k t =>
      have hb := nextD_ok 48 _ _ _ _ _ hx
      have hx' := nextD_stop 48 a [] (10 :: b) sk n k t (stop10 b) (by rw [List.append_nil]; exact hx) (by omega)
      rw [scanR_step hx, scanR_step hx', drop_app (by omega)]
      have ih := scanR_join (b := b) f (p + (sk + n)) (a.drop (sk + n)) (by rw [List.length_drop]; omega)
      cases hr : scanR (p + (sk + n)) (a.drop (sk + n)) with
      | ok l =>
        rw [hr] at ih
        dsimp only [Sc.put] at ih ⊢
        rw [ih]
        have e : p + (sk + n) + ((a.drop (sk + n)).length + 1) = p + (a.length + 1) := by rw [List.length_drop]; omega
        rw [e]
        cases scanR (p + (a.length + 1)) b <;> rfl
      | err q e =>
        rw [hr] at ih
        dsimp only [Sc.put] at ih ⊢
        intro he
        rw [ih he]
/-- A token by itself. -/
theorem nextD_own {d sk n k : Nat} {r t : Bs} (h : nextD d r = .tok sk n k t) : nextD d ((r.drop sk).take n) = .tok 0 n k t := by
  have hb := nextD_ok d _ _ _ _ _ h
  have h1 := nextD_stop d (r.take (sk + n)) (r.drop (sk + n)) [] sk n k t (.inl rfl) (by rw [List.take_append_drop]; exact h) (by rw [List.length_take]; omega)
  rw [List.append_nil] at h1
  have e : (r.drop sk).take n = (r.take (sk + n)).drop sk := by rw [List.drop_take, Nat.add_sub_cancel_left]
  rw [e]
  have hsk : skipB false (r.take (sk + n)) = sk := by
    have h1 := h1
    unfold nextD at h1
    rw [nextL_pick] at h1
    split at h1
    · cases h1
    · split at h1
      · split at h1
        · injection h1
        · cases h1
        · cases h1
      · split at h1
        · cases h1
        · injection h1
  have hs0 := skipB_drop (r.take (sk + n)) false
  rw [hsk] at hs0
  have h2 := nextD_ahead (d := d) (j := sk) (u := (r.take (sk + n)).take sk) (r := (r.take (sk + n)).drop sk) (by rw [List.length_take, List.length_take]; omega) (by rw [List.take_append_drop, hsk, hs0, List.length_take, List.length_take]; omega)
  rw [List.take_append_drop, h1] at h2
  have hsk2 : ∀ s' n' k' t', nextD d ((r.take (sk + n)).drop sk) = .tok s' n' k' t' → s' = 0 := fun s' n' k' t' h3 => by
    unfold nextD at h3
    rw [nextL_pick, hs0] at h3
    split at h3
    · cases h3
    · split at h3
      · split at h3 <;> cases h3; rfl
      · split at h3
        · cases h3
        · injection h3 with h3; exact h3.symm
  cases h3 : nextD d ((r.take (sk + n)).drop sk) with
  | none => rw [h3] at h2; cases h2
  | err a e => rw [h3] at h2; cases h2
  | tok s' n' k' t' =>
    rw [h3] at h2
    injection h2 with e1 e2 e3 e4
    obtain rfl := hsk2 _ _ _ _ h3
    rw [e2, e3, e4]
theorem scanR_own {sk n k : Nat} {r t : Bs} (h : nextD 48 r = .tok sk n k t) : scanR 0 ((r.drop sk).take n) = .ok [(k, t, 0)] := by
  have hb := nextD_ok 48 _ _ _ _ _ h
  have hl : ((r.drop sk).take n).length = n := by rw [List.length_take, List.length_drop]; omega
  rw [scanR_step (nextD_own h)]
  have e : ((r.drop sk).take n).drop (0 + n) = [] := by rw [Nat.zero_add]; exact List.drop_eq_nil_of_le (by omega)
  rw [e]
  rfl
/-- How much of the text a token has, by its kind and its text. -/
theorem nextD_size {d sk n k : Nat} {r t : Bs} (h : nextD d r = .tok sk n k t) : n = t.length + (if k = 2 ∨ k = 3 then 1 else 0) ∧ k ≤ 6 := by
  have hb := nextD_ok d _ _ _ _ _ h
  unfold nextD at h
  rw [nextL_pick] at h
  split at h
  · cases h
  · rename_i c u hd
    have hlen : (c :: u).length = r.length - skipB false r := by rw [← hd, List.length_drop]
    split at h
    · split at h
      · rename_i m hq
        injection h with h1 h2 h3 h4
        subst h3; subst h4; subst h2
        refine ⟨?_, by decide⟩
        have hmu := quoteL_ok d _ _ hq
        rw [List.length_take]; simp only [List.length_cons] at hmu ⊢; simp; omega
      · cases h
      · cases h
    · split at h
      · cases h
      · injection h with h1 h2 h3 h4
        have hk : k ≤ 6 := by
          rw [← h3]; unfold pick; dsimp only []
          repeat' split
          all_goals simp
        subst h2; subst h3; subst h4
        refine ⟨?_, hk⟩
        split
        · rw [List.length_drop, List.length_take]; omega
        · rw [List.length_take]; omega
/-- What is wrong is so at a byte of the text. -/
theorem nextL_errAt {q : Bs → Q} (hq : ∀ r a e, q r = .err a e → 0 < r.length → a < r.length) {r : Bs} {a e : Nat} (h : nextL q r = .err a e) : a < r.length := by
  rw [nextL_pick] at h
  split at h
  · cases h
  · rename_i c u hd
    have hlen : (c :: u).length = r.length - skipB false r := by rw [← hd, List.length_drop]
    have hl1 : (c :: u).length = u.length + 1 := rfl
    split at h
    · split at h
      · cases h
      · injection h with h1 h2; omega
      · rename_i a' e' hqq
        injection h with h1 h2
        have := hq _ _ _ hqq (by omega)
        omega
    · split at h
      · injection h with h1 h2; omega
      · cases h
theorem innerL_errAt {nx : Bs → Nx} (hok : NOk nx) (hn : ∀ r a e, nx r = .err a e → a < r.length) : ∀ (f : Nat) (r : Bs) (o a e : Nat), r.length < f → innerL nx r o = .err a e → a < r.length
  | 0, r, o, a, e, hf, h => by omega
  | f + 1, r, o, a, e, hf, h => by
    cases hx : nx r with
    | err a' e' => rw [innerL_err hx] at h; injection h with h1 h2; have := hn _ _ _ hx; omega
    | none => rw [innerL_none hx] at h; cases h
    | tok sk n k t =>
      have hb := hok _ _ _ _ _ hx
      rw [innerL_step hok hx] at h
      split at h
      · cases h
      · cases hi : innerL nx (r.drop (sk + n)) (opens o k t) with
        | ok j => rw [hi] at h; cases h
        | text => rw [hi] at h; cases h
        | err a' e' =>
          rw [hi] at h; injection h with h1 h2
          have := innerL_errAt hok hn f _ _ _ _ (by rw [List.length_drop]; omega) hi
          rw [List.length_drop] at this
          omega
theorem quoteR_errAt {nx : Bs → Nx} (hok : NOk nx) (hn : ∀ r a e, nx r = .err a e → a < r.length) : ∀ (f : Nat) (r : Bs) (a e : Nat), r.length < f → quoteR nx r = .err a e → a < r.length
  | 0, r, a, e, hf, h => by omega
  | f + 1, r, a, e, hf, h => by
    cases r with
    | nil => rw [quoteR_nil] at h; cases h
    | cons c u =>
      simp only [List.length_cons] at hf ⊢
      by_cases h34 : c = 34
      · subst h34; rw [quoteR_end] at h; cases h
      by_cases h92 : c = 92
      · subst h92
        cases u with
        | nil => rw [quoteR_last] at h; cases h
        | cons d u =>
          simp only [List.length_cons] at hf ⊢
          by_cases hd : d = 40
          · subst hd
            rw [quoteR_in hok] at h
            cases hi : innerL nx u 1 with
            | ok j =>
              have hjl := (innerL_ok hok hi).2
              rw [hi] at h; dsimp only [] at h
              cases hq : quoteR nx (u.drop j) with
              | ok i => rw [hq] at h; cases h
              | text => rw [hq] at h; cases h
              | err a' e' =>
                rw [hq] at h; injection h with h1 h2
                have := quoteR_errAt hok hn f _ _ _ (by rw [List.length_drop]; omega) hq
                rw [List.length_drop] at this
                omega
            | text => rw [hi] at h; cases h
            | err a' e' =>
              rw [hi] at h; injection h with h1 h2
              have := innerL_errAt hok hn _ u 1 a' e' (Nat.lt_succ_self _) hi
              omega
          · rw [quoteR_back hok hd] at h
            cases hq : quoteR nx u with
            | ok i => rw [hq] at h; cases h
            | text => rw [hq] at h; cases h
            | err a' e' =>
              rw [hq] at h; injection h with h1 h2
              have := quoteR_errAt hok hn f u _ _ (by omega) hq
              omega
      · rw [quoteR_plain hok h34 h92] at h
        cases hq : quoteR nx u with
        | ok i => rw [hq] at h; cases h
        | text => rw [hq] at h; cases h
        | err a' e' =>
          rw [hq] at h; injection h with h1 h2
          have := quoteR_errAt hok hn f u _ _ (by omega) hq
          omega
theorem quoteL_errAt : ∀ d (r : Bs) (a e : Nat), quoteL d r = .err a e → 0 < r.length → a < r.length
  | 0, r, a, e, h, h0 => by injection h with h1 h2; omega
  | d + 1, r, a, e, h, h0 => by
    simp only [quoteL] at h
    cases hq : quoteR (nextL (quoteL d)) (r.drop 1) with
    | ok m => rw [hq] at h; cases h
    | text => rw [hq] at h; cases h
    | err a' e' =>
      rw [hq] at h; injection h with h1 h2
      have := quoteR_errAt (next_ok (quoteL_ok d)) (fun r a e h => nextL_errAt (fun r a e h h0 => quoteL_errAt d r a e h h0) h) _ _ _ _ (Nat.lt_succ_self _) hq
      rw [List.length_drop] at this
      omega
theorem nextD_errAt {d : Nat} {r : Bs} {a e : Nat} (h : nextD d r = .err a e) : a < r.length := nextL_errAt (quoteL_errAt d) h
theorem scanR_errAt : ∀ (f p : Nat) (r : Bs) (a e : Nat), r.length < f → scanR p r = .err a e → p ≤ a ∧ a < p + r.length
  | 0, p, r, a, e, hf, h => by omega
  | f + 1, p, r, a, e, hf, h => by
    cases hx : nextD 48 r with
    | none => rw [scanR_none hx] at h; cases h
    | err a' e' => rw [scanR_err hx] at h; injection h with h1 h2; have := nextD_errAt hx; omega
    | tok sk n k t =>
      have hb := nextD_ok 48 _ _ _ _ _ hx
      rw [scanR_step hx] at h
      cases hr : scanR (p + (sk + n)) (r.drop (sk + n)) with
      | ok l => rw [hr] at h; cases h
      | err a' e' =>
        rw [hr] at h; injection h with h1 h2
        have := scanR_errAt f _ _ _ _ (by rw [List.length_drop]; omega) hr
        rw [List.length_drop] at this
        omega
end Go.Tk
