/- Journals, as plain functions on bytes. No program stands here. -/
import Derived.Test.YtoigogonccjagaaDoorOp
set_option linter.unusedVariables false
set_option linter.unusedSimpArgs false
namespace Go.Jn

abbrev Bs := List UInt8
/-- A number's bytes, the lowest first. -/
def le : Nat → Nat → Bs
  | 0, _ => []
  | k + 1, n => UInt8.ofNat n :: le k (n / 256)
/-- The number that bytes are. -/
def un : Bs → Nat
  | [] => 0
  | c :: t => c.toNat + 256 * un t
def sumF (s : Nat) (l : Bs) : Nat := l.foldl (fun s c => (s ^^^ c.toNat) * 16777619 % 4294967296) s
def sumB (l : Bs) : Nat := sumF 2166136261 l
def headB (e n len : Nat) : Bs := le 2 len ++ (le 4 e ++ le 4 n)
def recB (e n : Nat) (b : Bs) : Bs := headB e n b.length ++ (le 4 (sumB (headB e n b.length ++ b)) ++ b)
/-- The record that bytes begin with: its epoch, number, body. -/
def nextB (s : Bs) : Option (Nat × Nat × Bs) :=
  if s.length < 14 then none else if s.length - 14 < un (s.take 2) then none
  else if un ((s.drop 10).take 4) = sumB (s.take 10 ++ (s.drop 14).take (un (s.take 2))) then some (un ((s.drop 2).take 4), un ((s.drop 6).take 4), (s.drop 14).take (un (s.take 2)))
  else none
def recsB (e : Nat) : Nat → List Bs → Bs
  | _, [] => []
  | n, b :: l => recB e n b ++ recsB e (n + 1) l
def parseF (e : Nat) : Nat → Nat → Bs → List Bs
  | 0, _, _ => []
  | f + 1, k, s => match nextB s with
    | some (x, n, b) => if x = e ∧ n = k then b :: parseF e f (k + 1) (s.drop (14 + b.length)) else []
    | none => []
def parseR (e k : Nat) (s : Bs) : List Bs := parseF e (s.length + 1) k s
def frontB (s : Bs) : Nat := match nextB s with
  | some (e, n, _) => if n = 1 then e else 0
  | none => 0

/-! ### Numbers -/
@[simp] theorem le_length : ∀ k n, (le k n).length = k
  | 0, _ => rfl
  | k + 1, n => by simp [le, le_length k]
theorem un_le : ∀ k n, n < 256 ^ k → un (le k n) = n
  | 0, n, h => by have : n < 1 := by simpa using h
                  have : n = 0 := by omega
                  subst this; rfl
  | k + 1, n, h => by
    have h1 : n / 256 < 256 ^ k := by rw [Nat.pow_succ] at h; exact Nat.div_lt_of_lt_mul (by omega)
    simp only [le, un, un_le k _ h1, UInt8.toNat_ofNat']
    omega
theorem un_lt : ∀ l : Bs, un l < 256 ^ l.length
  | [] => by simp [un]
  | c :: t => by
    have h := un_lt t
    have hc := UInt8.toNat_lt c
    simp only [un, List.length_cons, Nat.pow_succ]
    omega
theorem un_append : ∀ (a b : Bs), un (a ++ b) = un a + 256 ^ a.length * un b
  | [], b => by simp [un]
  | c :: a, b => by
    simp only [List.cons_append, un, un_append a b, List.length_cons, Nat.pow_succ]
    rw [Nat.mul_add, ← Nat.mul_assoc, Nat.mul_comm 256 (256 ^ a.length)]
    omega
theorem sumF_append (s : Nat) (a b : Bs) : sumF s (a ++ b) = sumF (sumF s a) b := by simp [sumF, List.foldl_append]
theorem sumF_lt {s : Nat} (hs : s < 4294967296) : ∀ (l : Bs), sumF s l < 4294967296
  | [] => hs
  | c :: l => by
    have : sumF s (c :: l) = sumF ((s ^^^ c.toNat) * 16777619 % 4294967296) l := rfl
    rw [this]; exact sumF_lt (Nat.mod_lt _ (by decide)) l
theorem sumB_lt (l : Bs) : sumB l < 4294967296 := sumF_lt (by decide) l

/-! ### Records -/
@[simp] theorem headB_length (e n len : Nat) : (headB e n len).length = 10 := by simp [headB]
theorem recB_length (e n : Nat) (b : Bs) : (recB e n b).length = 14 + b.length := by simp [recB]; omega
theorem take_app' {a x : Bs} {n : Nat} (h : a.length = n) : (a ++ x).take n = a := by subst h; exact List.take_left
theorem drop_app' {a x : Bs} {n : Nat} (h : a.length = n) : (a ++ x).drop n = x := by subst h; exact List.drop_left
/-- What stands in a record's bytes. -/
theorem recB_parts (e n : Nat) (b rest : Bs) (h1 : b.length < 65536) (h2 : e < 4294967296) (h3 : n < 4294967296) :
    un ((recB e n b ++ rest).take 2) = b.length ∧ un (((recB e n b ++ rest).drop 2).take 4) = e ∧ un (((recB e n b ++ rest).drop 6).take 4) = n ∧ (recB e n b ++ rest).take 10 = headB e n b.length ∧
      un (((recB e n b ++ rest).drop 10).take 4) = sumB (headB e n b.length ++ b) ∧ (recB e n b ++ rest).drop 14 = b ++ rest := by
  have e0 : recB e n b ++ rest = le 2 b.length ++ (le 4 e ++ (le 4 n ++ (le 4 (sumB (headB e n b.length ++ b)) ++ (b ++ rest)))) := by
    simp [recB, headB]
  have d2 : (recB e n b ++ rest).drop 2 = le 4 e ++ (le 4 n ++ (le 4 (sumB (headB e n b.length ++ b)) ++ (b ++ rest))) := by rw [e0]; exact drop_app' (le_length _ _)
  have d6 : (recB e n b ++ rest).drop 6 = le 4 n ++ (le 4 (sumB (headB e n b.length ++ b)) ++ (b ++ rest)) := by
    rw [show (6 : Nat) = 2 + 4 from rfl, ← List.drop_drop, d2]; exact drop_app' (le_length _ _)
  have d10 : (recB e n b ++ rest).drop 10 = le 4 (sumB (headB e n b.length ++ b)) ++ (b ++ rest) := by
    rw [show (10 : Nat) = 6 + 4 from rfl, ← List.drop_drop, d6]; exact drop_app' (le_length _ _)
  have d14 : (recB e n b ++ rest).drop 14 = b ++ rest := by
    rw [show (14 : Nat) = 10 + 4 from rfl, ← List.drop_drop, d10]; exact drop_app' (le_length _ _)
  refine ⟨?_, ?_, ?_, ?_, ?_, d14⟩
  · rw [e0, take_app' (le_length _ _)]; exact un_le 2 _ (by omega)
  · rw [d2, take_app' (le_length _ _)]; exact un_le 4 _ (by omega)
  · rw [d6, take_app' (le_length _ _)]; exact un_le 4 _ (by omega)
  · have : recB e n b ++ rest = headB e n b.length ++ (le 4 (sumB (headB e n b.length ++ b)) ++ (b ++ rest)) := by simp [recB]
    rw [this]; exact take_app' (headB_length _ _ _)
  · rw [d10, take_app' (le_length _ _)]; exact un_le 4 _ (sumB_lt _)
theorem nextB_rec (e n : Nat) (b rest : Bs) (h1 : b.length < 65536) (h2 : e < 4294967296) (h3 : n < 4294967296) : nextB (recB e n b ++ rest) = some (e, n, b) := by
  obtain ⟨p1, p2, p3, p4, p5, p6⟩ := recB_parts e n b rest h1 h2 h3
  have hl : (recB e n b ++ rest).length = 14 + b.length + rest.length := by rw [List.length_append, recB_length]
  unfold nextB
  rw [p1, p2, p3, p4, p5, p6, if_neg (by omega), if_neg (by omega), take_app' rfl, if_pos rfl]
theorem recsB_length (e : Nat) : ∀ (l : List Bs) (n : Nat), (recsB e n l).length = (l.map fun b => 14 + b.length).sum
  | [], _ => rfl
  | b :: l, n => by simp [recsB, recB_length, recsB_length e l]
theorem recsB_append (e : Nat) : ∀ (a b : List Bs) (n : Nat), recsB e n (a ++ b) = recsB e n a ++ recsB e (n + a.length) b
  | [], b, n => by simp [recsB]
  | x :: a, b, n => by
    simp only [List.cons_append, recsB, recsB_append e a b (n + 1), List.length_cons, List.append_assoc]
    congr 3; omega
/-- Where nothing of an epoch and a number begins. -/
def Stops (e k : Nat) (s : Bs) : Prop := ∀ b, nextB s ≠ some (e, k, b)
theorem nextB_body {s : Bs} {x n : Nat} {b : Bs} (h : nextB s = some (x, n, b)) : 14 + b.length ≤ s.length ∧ b.length < 65536 := by
  unfold nextB at h
  split at h
  · cases h
  · split at h
    · cases h
    · split at h
      · injection h with h; injection h with h1 h2; injection h2 with h2 h3
        have hu := un_lt (s.take 2)
        rw [← h3, List.length_take, List.length_drop]
        have : (s.take 2).length = 2 := by rw [List.length_take]; omega
        rw [this] at hu
        omega
      · cases h
theorem parseF_fuel (e : Nat) : ∀ (f g k : Nat) (s : Bs), s.length < f → s.length < g → parseF e f k s = parseF e g k s
  | 0, _, _, _, h, _ => by omega
  | _ + 1, 0, _, _, _, h => by omega
  | f + 1, g + 1, k, s, hf, hg => by
    simp only [parseF]
    cases hx : nextB s with
    | none => rfl
    | some y =>
      obtain ⟨x, n, b⟩ := y
      have := (nextB_body hx).1
      dsimp only []
      rw [parseF_fuel e f g (k + 1) (s.drop (14 + b.length)) (by rw [List.length_drop]; omega) (by rw [List.length_drop]; omega)]
theorem parseR_step {e k : Nat} {s b : Bs} (h : nextB s = some (e, k, b)) : parseR e k s = b :: parseR e (k + 1) (s.drop (14 + b.length)) := by
  have hb := (nextB_body h).1
  unfold parseR
  rw [parseF, h]
  dsimp only []
  rw [if_pos ⟨rfl, rfl⟩, parseF_fuel e s.length ((s.drop (14 + b.length)).length + 1) (k + 1) _ (by rw [List.length_drop]; omega) (by omega)]
theorem parseR_stop {e k : Nat} {s : Bs} (h : Stops e k s) : parseR e k s = [] := by
  unfold parseR
  rw [parseF]
  cases hx : nextB s with
  | none => rfl
  | some y =>
    obtain ⟨x, n, b⟩ := y
    dsimp only []
    rw [if_neg]
    rintro ⟨rfl, rfl⟩
    exact h b hx
theorem parse_recs {e : Nat} (he : e < 4294967296) {rest : Bs} : ∀ (l : List Bs) (k : Nat), (∀ b ∈ l, b.length < 65536) → k + l.length < 4294967296 → Stops e (k + l.length) rest → parseR e k (recsB e k l ++ rest) = l
  | [], k, _, _, h => by
    show parseR e k ([] ++ rest) = []
    rw [List.nil_append]; exact parseR_stop h
  | b :: l, k, hb, hk, h => by
    simp only [List.length_cons] at hk h
    have hn : nextB (recsB e k (b :: l) ++ rest) = some (e, k, b) := by
      rw [recsB, List.append_assoc]; exact nextB_rec _ _ _ _ (hb b List.mem_cons_self) he (by omega)
    rw [parseR_step hn]
    have hd : (recsB e k (b :: l) ++ rest).drop (14 + b.length) = recsB e (k + 1) l ++ rest := by
      rw [recsB, List.append_assoc]; exact drop_app' (recB_length _ _ _)
    rw [hd, parse_recs he l (k + 1) (fun x hx => hb x (List.mem_cons_of_mem _ hx)) (by omega) (by rw [show k + 1 + l.length = k + (l.length + 1) by omega]; exact h)]
theorem un_zeros : ∀ n, un (List.replicate n 0) = 0
  | 0 => rfl
  | n + 1 => by simp [List.replicate_succ, un, un_zeros n]
theorem stops_zeros {e k z : Nat} (he : 1 ≤ e) : Stops e k (List.replicate z 0) := by
  intro b h
  unfold nextB at h
  split at h
  · cases h
  · split at h
    · cases h
    · split at h
      · injection h with h; injection h with h1 h2
        rw [List.drop_replicate, List.take_replicate, un_zeros] at h1
        omega
      · cases h
theorem front_recs {e : Nat} (he : e < 4294967296) {b : Bs} (l : List Bs) (rest : Bs) (hb : b.length < 65536) : frontB (recsB e 1 (b :: l) ++ rest) = e := by
  unfold frontB
  rw [recsB, List.append_assoc, nextB_rec _ _ _ _ hb he (by decide)]
  rfl
theorem parse_other {e e' : Nat} (he : e < 4294967296) (h : e ≠ e') {b : Bs} (l : List Bs) (rest : Bs) (hb : b.length < 65536) : parseR e' 1 (recsB e 1 (b :: l) ++ rest) = [] := by
  refine parseR_stop fun c hc => ?_
  rw [recsB, List.append_assoc, nextB_rec _ _ _ _ hb he (by decide)] at hc
  injection hc with hc; injection hc with hc _
  exact h hc
end Go.Jn
