/- Tokens, as plain functions on what is left of a text. No program stands here. -/
import Derived.Test.YtcahpllliflloaaOp
set_option linter.unusedVariables false
set_option linter.unusedSimpArgs false
namespace Go.Tk
open Go

abbrev Bs := List UInt8
def isLetter (c : UInt8) : Bool := (decide (97 ≤ c.toNat) && decide (c.toNat ≤ 122)) || (decide (65 ≤ c.toNat) && decide (c.toNat ≤ 90)) || decide (c.toNat = 95)
def isDigit (c : UInt8) : Bool := decide (48 ≤ c.toNat) && decide (c.toNat ≤ 57)
def isIn (c : UInt8) : Bool := isLetter c || isDigit c
def isBlank (c : UInt8) : Bool := decide (c = 32) || decide (c = 9) || decide (c = 10) || decide (c = 13)
/-- How much is let by; is it within a note? -/
def skipB : Bool → Bs → Nat
  | _, [] => 0
  | true, c :: t => if c = 10 then 1 + skipB false t else 1 + skipB true t
  | false, c :: t => if isBlank c then 1 + skipB false t else if c = 35 then 1 + skipB true t else 0
def nameL : Bs → Nat
  | [] => 0
  | c :: t => if isLetter c then 1 + (t.takeWhile isIn).length else 0
def runL (s : Bs) : Nat := (s.takeWhile isDigit).length
def pointL (n : Nat) (r : Bs) : Nat := match r with
  | [] => n
  | c :: t => if c = 46 ∧ 0 < runL t then n + 1 + runL t else n
def plusL (t : Bs) : Nat := match t with
  | [] => 0
  | c :: _ => if c = 43 ∨ c = 45 then 1 else 0
def powerL (n : Nat) (r : Bs) : Nat := match r with
  | [] => n
  | c :: t => if (c = 101 ∨ c = 69) ∧ 0 < runL (t.drop (plusL t)) then n + 1 + plusL t + runL (t.drop (plusL t)) else n
def numberL (s : Bs) : Nat := if runL s = 0 then 0 else powerL (pointL (runL s) (s.drop (runL s))) (s.drop (pointL (runL s) (s.drop (runL s))))
def twos : List Bs := [[124, 61], [43, 61], [45, 61], [42, 61], [47, 61], [61, 61], [33, 61], [60, 61], [62, 61], [47, 47], [46, 46]]
def ones : Bs := [124, 44, 46, 91, 93, 40, 41, 123, 125, 58, 59, 61, 60, 62, 43, 45, 42, 47, 37, 63]
def signL (s : Bs) : Nat := if s.take 3 = [47, 47, 61] then 3 else if s.take 2 ∈ twos then 2 else match s with
  | [] => 0
  | c :: _ => if c ∈ ones then 1 else 0

inductive Nx | none | tok (sk n k : Nat) (text : Bs) | err (a e : Nat)
inductive Q | ok (n : Nat) | text | err (a e : Nat)
def Q.on (m : Nat) : Q → Q
  | .ok n => .ok (m + n) | .text => .text | .err a e => .err (m + a) e
def nextL (q : Bs → Q) (r : Bs) : Nx :=
  match r.drop (skipB false r) with
  | [] => .none
  | c :: t =>
    if c = 34 then match q (c :: t) with
      | .ok n => .tok (skipB false r) n 5 ((c :: t).take n)
      | .text => .err (skipB false r) 20
      | .err a e => .err (skipB false r + a) e
    else if isLetter c then .tok (skipB false r) (nameL (c :: t)) 1 ((c :: t).take (nameL (c :: t)))
    else if c = 36 ∧ 0 < nameL t then .tok (skipB false r) (1 + nameL t) 2 (t.take (nameL t))
    else if c = 46 ∧ 0 < nameL t then .tok (skipB false r) (1 + nameL t) 3 (t.take (nameL t))
    else if isDigit c then .tok (skipB false r) (numberL (c :: t)) 4 ((c :: t).take (numberL (c :: t)))
    else if signL (c :: t) = 0 then .err (skipB false r) 60
    else .tok (skipB false r) (signL (c :: t)) 6 ((c :: t).take (signL (c :: t)))
def opens (o k : Nat) (text : Bs) : Nat := if k = 6 ∧ text = [40] then o + 1 else if k = 6 ∧ text = [41] then o - 1 else o
/-- The tokens of a filter in a text, up to the sign that closes it; 'text': it does not come. -/
def innerF (nx : Bs → Nx) : Nat → Bs → Nat → Q
  | 0, _, _ => .text
  | f + 1, r, o => match nx r with
    | .err a e => .err a e
    | .none => .text
    | .tok sk n k text => if opens o k text = 0 then .ok (sk + n) else (innerF nx f (r.drop (sk + n)) (opens o k text)).on (sk + n)
def innerL (nx : Bs → Nx) (r : Bs) (o : Nat) : Q := innerF nx (r.length + 1) r o
def quoteF (nx : Bs → Nx) : Nat → Bs → Q
  | 0, _ => .text
  | _ + 1, [] => .text
  | f + 1, c :: t => if c = 34 then .ok 1
    else if c = 92 then match t with
      | [] => .text
      | d :: u => if d = 40 then match innerL nx u 1 with
          | .ok m => (quoteF nx f (u.drop m)).on (2 + m)
          | .text => .text
          | .err a e => .err (2 + a) e
        else (quoteF nx f u).on 2
    else (quoteF nx f t).on 1
def quoteR (nx : Bs → Nx) (r : Bs) : Q := quoteF nx (r.length + 1) r
def quoteL : Nat → Bs → Q
  | 0, _ => .err 0 31
  | d + 1, r => (quoteR (nextL (quoteL d)) (r.drop 1)).on 1
def nextD (d : Nat) (r : Bs) : Nx := nextL (quoteL d) r
inductive Sc | ok (l : List (Nat × Bs × Nat)) | err (a e : Nat)
def Sc.put (x : Nat × Bs × Nat) : Sc → Sc
  | .ok l => .ok (x :: l) | .err a e => .err a e
def scanF : Nat → Nat → Bs → Sc
  | 0, _, _ => .ok []
  | f + 1, p, r => match nextD 48 r with
    | .err a e => .err (p + a) e
    | .none => .ok []
    | .tok sk n k text => (scanF f (p + (sk + n)) (r.drop (sk + n))).put (k, text, p + sk)
def scanL (s : Bs) : Sc := if 16384 < s.length then .err 0 3 else scanF (s.length + 1) 0 s

/-! ### Lengths -/
theorem skipB_le : ∀ (r : Bs) (b : Bool), skipB b r ≤ r.length
  | [], b => by cases b <;> simp [skipB]
  | c :: t, true => by
    have h1 := skipB_le t true
    have h2 := skipB_le t false
    simp only [skipB, List.length_cons]
    split <;> omega
  | c :: t, false => by
    have h1 := skipB_le t true
    have h2 := skipB_le t false
    simp only [skipB, List.length_cons]
    split
    · omega
    · split <;> omega
theorem takeWhile_le (p : UInt8 → Bool) (t : Bs) : (t.takeWhile p).length ≤ t.length := (List.takeWhile_prefix p).length_le
theorem nameL_le (s : Bs) : nameL s ≤ s.length := by
  cases s with
  | nil => simp [nameL]
  | cons c t =>
    have := takeWhile_le isIn t
    simp only [nameL, List.length_cons]
    split <;> omega
theorem nameL_pos {c : UInt8} {t : Bs} (h : isLetter c = true) : 1 ≤ nameL (c :: t) := by
  simp only [nameL, if_pos h]; omega
theorem runL_le (s : Bs) : runL s ≤ s.length := takeWhile_le _ _
theorem runL_pos {c : UInt8} {t : Bs} (h : isDigit c = true) : 1 ≤ runL (c :: t) := by
  simp [runL, h]
theorem pointL_bd {n : Nat} {r : Bs} : n ≤ pointL n r ∧ pointL n r ≤ n + r.length := by
  cases r with
  | nil => simp [pointL]
  | cons c t =>
    have := runL_le t
    simp only [pointL, List.length_cons]
    split <;> omega
theorem plusL_le (t : Bs) : plusL t ≤ t.length := by
  cases t with
  | nil => simp [plusL]
  | cons c t => simp only [plusL, List.length_cons]; split <;> omega
theorem powerL_bd {n : Nat} {r : Bs} : n ≤ powerL n r ∧ powerL n r ≤ n + r.length := by
  cases r with
  | nil => simp [powerL]
  | cons c t =>
    have h1 := runL_le (t.drop (plusL t))
    have h2 := plusL_le t
    rw [List.length_drop] at h1
    simp only [powerL, List.length_cons]
    split <;> omega
theorem numberL_le (s : Bs) : numberL s ≤ s.length := by
  unfold numberL
  split
  · omega
  · have h1 := runL_le s
    have h2 := (pointL_bd (n := runL s) (r := s.drop (runL s))).2
    have h3 := (powerL_bd (n := pointL (runL s) (s.drop (runL s))) (r := s.drop (pointL (runL s) (s.drop (runL s))))).2
    rw [List.length_drop] at h2 h3
    omega
theorem numberL_pos {c : UInt8} {t : Bs} (h : isDigit c = true) : 1 ≤ numberL (c :: t) := by
  have h0 := runL_pos (t := t) h
  unfold numberL
  rw [if_neg (by omega)]
  have h2 := (pointL_bd (n := runL (c :: t)) (r := (c :: t).drop (runL (c :: t)))).1
  have h3 := (powerL_bd (n := pointL (runL (c :: t)) ((c :: t).drop (runL (c :: t)))) (r := (c :: t).drop (pointL (runL (c :: t)) ((c :: t).drop (runL (c :: t)))))).1
  omega
theorem signL_le (s : Bs) : signL s ≤ s.length := by
  unfold signL
  split
  · rename_i h
    have := congrArg List.length h
    rw [List.length_take] at this
    simp at this; omega
  · split
    · rename_i h
      have : (s.take 2).length = 2 := by
        have : ∀ x ∈ twos, x.length = 2 := by decide
        exact this _ h
      rw [List.length_take] at this; omega
    · cases s with
      | nil => simp
      | cons c t => dsimp only []; split <;> simp
/-- Where a text in quotes is found, it is found within what is left. -/
def QOk (q : Bs → Q) : Prop := ∀ r n, q r = .ok n → 1 ≤ n ∧ n ≤ r.length
def NOk (nx : Bs → Nx) : Prop := ∀ r sk n k t, nx r = .tok sk n k t → 1 ≤ n ∧ sk + n ≤ r.length ∧ 1 ≤ k
theorem next_ok {q : Bs → Q} (hq : QOk q) : NOk (nextL q) := by
  intro r sk n k tx h
  have hs := skipB_le r false
  unfold nextL at h
  cases hr : r.drop (skipB false r) with
  | nil => rw [hr] at h; cases h
  | cons c t =>
    have hl : (r.drop (skipB false r)).length = r.length - skipB false r := List.length_drop
    rw [hr] at h hl
    have hcl : (c :: t).length = t.length + 1 := rfl
    dsimp only [] at h
    split at h
    · cases hqq : q (c :: t) with
      | ok m =>
        rw [hqq] at h
        cases h
        have := hq _ _ hqq
        omega
      | text => rw [hqq] at h; cases h
      | err a e => rw [hqq] at h; cases h
    · split at h
      · rename_i hc
        cases h
        have h1 := nameL_le (c :: t)
        have h2 := nameL_pos (t := t) hc
        omega
      · have h1 := nameL_le t
        split at h
        · cases h; omega
        · split at h
          · cases h; omega
          · split at h
            · rename_i hc
              cases h
              have h1 := numberL_le (c :: t)
              have h2 := numberL_pos (t := t) hc
              omega
            · split at h
              · cases h
              · cases h
                have := signL_le (c :: t)
                omega
theorem innerF_ok {nx : Bs → Nx} (hn : NOk nx) : ∀ (f : Nat) (r : Bs) (o m : Nat), innerF nx f r o = .ok m → 1 ≤ m ∧ m ≤ r.length
  | 0, _, _, _, h => by cases h
  | f + 1, r, o, m, h => by
    simp only [innerF] at h
    cases hx : nx r with
    | err a e => rw [hx] at h; cases h
    | none => rw [hx] at h; cases h
    | tok sk n k t =>
      rw [hx] at h
      have h1 := hn _ _ _ _ _ hx
      dsimp only [] at h
      split at h
      · cases h; omega
      · cases hi : innerF nx f (r.drop (sk + n)) (opens o k t) with
        | ok m' =>
          rw [hi] at h
          cases h
          have := innerF_ok hn f _ _ _ hi
          rw [List.length_drop] at this
          omega
        | text => rw [hi] at h; cases h
        | err a e => rw [hi] at h; cases h
theorem innerL_ok {nx : Bs → Nx} (hn : NOk nx) {r : Bs} {o m : Nat} (h : innerL nx r o = .ok m) : 1 ≤ m ∧ m ≤ r.length := innerF_ok hn _ _ _ _ h
theorem innerF_fuel {nx : Bs → Nx} (hn : NOk nx) : ∀ (f g : Nat) (r : Bs) (o : Nat), r.length < f → r.length < g → innerF nx f r o = innerF nx g r o
  | 0, _, _, _, h, _ => by omega
  | _ + 1, 0, _, _, _, h => by omega
  | f + 1, g + 1, r, o, hf, hg => by
    simp only [innerF]
    cases hx : nx r with
    | err a e => rfl
    | none => rfl
    | tok sk n k t =>
      have h1 := hn _ _ _ _ _ hx
      dsimp only []
      rw [innerF_fuel hn f g (r.drop (sk + n)) _ (by rw [List.length_drop]; omega) (by rw [List.length_drop]; omega)]
theorem innerL_step {nx : Bs → Nx} (hn : NOk nx) {r : Bs} {o sk n k : Nat} {t : Bs} (h : nx r = .tok sk n k t) :
    innerL nx r o = if opens o k t = 0 then .ok (sk + n) else (innerL nx (r.drop (sk + n)) (opens o k t)).on (sk + n) := by
  have h1 := hn _ _ _ _ _ h
  show innerF nx (r.length + 1) r o = _
  simp only [innerF, h]
  rw [innerF_fuel hn r.length ((r.drop (sk + n)).length + 1) (r.drop (sk + n)) _ (by rw [List.length_drop]; omega) (by omega)]
  rfl
theorem innerL_err {nx : Bs → Nx} {r : Bs} {o a e : Nat} (h : nx r = .err a e) : innerL nx r o = .err a e := by
  show innerF nx (r.length + 1) r o = _
  simp only [innerF, h]
theorem innerL_none {nx : Bs → Nx} {r : Bs} {o : Nat} (h : nx r = .none) : innerL nx r o = .text := by
  show innerF nx (r.length + 1) r o = _
  simp only [innerF, h]
theorem Q.on_on (a b : Nat) (q : Q) : (q.on b).on a = q.on (a + b) := by cases q <;> simp [Q.on, Nat.add_assoc]
theorem Q.on_zero (q : Q) : q.on 0 = q := by cases q <;> simp [Q.on]
theorem quoteF_ok {nx : Bs → Nx} (hn : NOk nx) : ∀ (f : Nat) (r : Bs) (m : Nat), quoteF nx f r = .ok m → 1 ≤ m ∧ m ≤ r.length
  | 0, _, _, h => by cases h
  | _ + 1, [], _, h => by cases h
  | f + 1, c :: t, m, h => by
    simp only [quoteF] at h
    split at h
    · cases h; simp
    · split at h
      · cases t with
        | nil => cases h
        | cons d u =>
          dsimp only [] at h
          split at h
          · cases hi : innerL nx u 1 with
            | ok k =>
              rw [hi] at h
              dsimp only [] at h
              have h1 := innerL_ok hn hi
              cases hq : quoteF nx f (u.drop k) with
              | ok j =>
                rw [hq] at h; cases h
                have := quoteF_ok hn f _ _ hq
                rw [List.length_drop] at this
                simp only [List.length_cons]; omega
              | text => rw [hq] at h; cases h
              | err a e => rw [hq] at h; cases h
            | text => rw [hi] at h; cases h
            | err a e => rw [hi] at h; cases h
          · cases hq : quoteF nx f u with
            | ok j =>
              rw [hq] at h; cases h
              have := quoteF_ok hn f _ _ hq
              simp only [List.length_cons]; omega
            | text => rw [hq] at h; cases h
            | err a e => rw [hq] at h; cases h
      · cases hq : quoteF nx f t with
        | ok j =>
          rw [hq] at h; cases h
          have := quoteF_ok hn f _ _ hq
          simp only [List.length_cons]; omega
        | text => rw [hq] at h; cases h
        | err a e => rw [hq] at h; cases h
theorem quoteF_fuel {nx : Bs → Nx} (hn : NOk nx) : ∀ (f g : Nat) (r : Bs), r.length < f → r.length < g → quoteF nx f r = quoteF nx g r
  | 0, _, _, h, _ => by omega
  | _ + 1, 0, _, _, h => by omega
  | _ + 1, _ + 1, [], _, _ => rfl
  | f + 1, g + 1, c :: t, hf, hg => by
    simp only [List.length_cons] at hf hg
    simp only [quoteF]
    split
    · rfl
    · split
      · cases t with
        | nil => rfl
        | cons d u =>
          simp only [List.length_cons] at hf hg
          dsimp only []
          split
          · cases hi : innerL nx u 1 with
            | ok k =>
              have h1 := innerL_ok hn hi
              dsimp only []
              rw [quoteF_fuel hn f g (u.drop k) (by rw [List.length_drop]; omega) (by rw [List.length_drop]; omega)]
            | text => rfl
            | err a e => rfl
          · rw [quoteF_fuel hn f g u (by omega) (by omega)]
      · rw [quoteF_fuel hn f g t (by omega) (by omega)]
theorem quoteR_nil (nx : Bs → Nx) : quoteR nx [] = .text := rfl
theorem quoteR_end (nx : Bs → Nx) (t : Bs) : quoteR nx (34 :: t) = .ok 1 := rfl
theorem quoteR_plain {nx : Bs → Nx} (hn : NOk nx) {c : UInt8} {t : Bs} (h1 : c ≠ 34) (h2 : c ≠ 92) : quoteR nx (c :: t) = (quoteR nx t).on 1 := by
  show quoteF nx (t.length + 1 + 1) (c :: t) = _
  simp only [quoteF, if_neg h1, if_neg h2]; rfl
theorem quoteR_last (nx : Bs → Nx) : quoteR nx [92] = .text := rfl
theorem quoteR_back {nx : Bs → Nx} (hn : NOk nx) {d : UInt8} {u : Bs} (h : d ≠ 40) : quoteR nx (92 :: d :: u) = (quoteR nx u).on 2 := by
  show quoteF nx (u.length + 1 + 1 + 1) (92 :: d :: u) = _
  have e : (92 : UInt8) ≠ 34 := by decide
  simp only [quoteF, if_neg e, if_true, if_neg h]
  rw [quoteF_fuel hn (u.length + 1 + 1) (u.length + 1) u (by omega) (by omega)]; rfl
theorem quoteR_in {nx : Bs → Nx} (hn : NOk nx) (u : Bs) : quoteR nx (92 :: 40 :: u) = match innerL nx u 1 with
    | .ok m => (quoteR nx (u.drop m)).on (2 + m)
    | .text => .text
    | .err a e => .err (2 + a) e := by
  show quoteF nx (u.length + 1 + 1 + 1) (92 :: 40 :: u) = _
  have e : (92 : UInt8) ≠ 34 := by decide
  simp only [quoteF, if_neg e, if_true]
  cases hi : innerL nx u 1 with
  | ok m =>
    have h1 := innerL_ok hn hi
    dsimp only []
    rw [quoteF_fuel hn (u.length + 1 + 1) ((u.drop m).length + 1) (u.drop m) (by rw [List.length_drop]; omega) (by omega)]; rfl
  | text => rfl
  | err a e => rfl
theorem quoteL_ok : ∀ d, QOk (quoteL d)
  | 0 => fun _ _ h => by cases h
  | d + 1 => fun r n h => by
    have hn := next_ok (quoteL_ok d)
    simp only [quoteL] at h
    cases hq : quoteR (nextL (quoteL d)) (r.drop 1) with
    | ok m =>
      rw [hq] at h; cases h
      have := quoteF_ok hn _ _ _ hq
      rw [List.length_drop] at this; omega
    | text => rw [hq] at h; cases h
    | err a e => rw [hq] at h; cases h
theorem nextD_ok (d : Nat) : NOk (nextD d) := next_ok (quoteL_ok d)
theorem scanF_fuel : ∀ (f g p : Nat) (r : Bs), r.length < f → r.length < g → scanF f p r = scanF g p r
  | 0, _, _, _, h, _ => by omega
  | _ + 1, 0, _, _, _, h => by omega
  | f + 1, g + 1, p, r, hf, hg => by
    simp only [scanF]
    cases hx : nextD 48 r with
    | err a e => rfl
    | none => rfl
    | tok sk n k t =>
      have h1 := nextD_ok 48 _ _ _ _ _ hx
      dsimp only []
      rw [scanF_fuel f g _ (r.drop (sk + n)) (by rw [List.length_drop]; omega) (by rw [List.length_drop]; omega)]
def scanR (p : Nat) (r : Bs) : Sc := scanF (r.length + 1) p r
theorem scanR_step {p sk n k : Nat} {r t : Bs} (h : nextD 48 r = .tok sk n k t) : scanR p r = (scanR (p + (sk + n)) (r.drop (sk + n))).put (k, t, p + sk) := by
  have h1 := nextD_ok 48 _ _ _ _ _ h
  show scanF (r.length + 1) p r = _
  simp only [scanF, h]
  rw [scanF_fuel r.length ((r.drop (sk + n)).length + 1) _ (r.drop (sk + n)) (by rw [List.length_drop]; omega) (by omega)]
  rfl
theorem scanR_none {p : Nat} {r : Bs} (h : nextD 48 r = .none) : scanR p r = .ok [] := by
  show scanF (r.length + 1) p r = _
  simp only [scanF, h]
theorem scanR_err {p a e : Nat} {r : Bs} (h : nextD 48 r = .err a e) : scanR p r = .err (p + a) e := by
  show scanF (r.length + 1) p r = _
  simp only [scanF, h]
theorem scanL_eq {s : Bs} (h : s.length ≤ 16384) : scanL s = scanR 0 s := by
  unfold scanL; rw [if_neg (by omega)]; rfl
end Go.Tk
