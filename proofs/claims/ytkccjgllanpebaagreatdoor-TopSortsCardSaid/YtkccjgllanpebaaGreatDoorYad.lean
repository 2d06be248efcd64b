/-
  Values and their keys, and that keys stand in the order of their values | A node's page says the node | Pages as parts that lie apart from one another
-/
import Derived.Test.YtkccjgllanpebaaGreatDoorYab
import Derived.Lib.ItoaNum
set_option linter.unusedVariables false
set_option linter.unusedSimpArgs false
namespace Go.Kv
open Go.Tr
inductive V where
  | mk (kind m e : Int) (text : Bs) (list : List V) (keys : List Bs)
def V.kind : V → Int | .mk k _ _ _ _ _ => k
def V.m : V → Int | .mk _ m _ _ _ _ => m
def V.e : V → Int | .mk _ _ e _ _ _ => e
def V.text : V → Bs | .mk _ _ _ t _ _ => t
def V.list : V → List V | .mk _ _ _ _ l _ => l
def V.keys : V → List Bs | .mk _ _ _ _ _ k => k
def esc (s : Bs) : Bs := s.flatMap fun b => if b = 0 then [0, 255] else [b]
def textK (s : Bs) : Bs := esc s ++ [0, 1]
def turnB (neg : Bool) (b : UInt8) : UInt8 := if neg then 255 - b else b
def digK (neg : Bool) (d : Bs) (e : Int) : Bs := (if neg then 1 else 3) :: turnB neg (UInt8.ofNat (100 + (d.length : Int) + e).toNat) :: (d.map fun c => turnB neg (c - 47)) ++ [turnB neg 0]
def sizeN (m : Int) : Nat := m.natAbs
def numK (m e : Int) : Bs := if m = 0 then [2] else digK (decide (m < 0)) (Go.Lib.decDigits (sizeN m)) e
def keysK (l : List Bs) : Bs := (l.flatMap fun k => 5 :: textK k) ++ [0]
def kindB (k : Int) : UInt8 := UInt8.ofNat (k + 1).toNat
mutual
def putV : V → Bs
  | .mk k m e t l ks => kindB k :: (if k = 3 then numK m e else if k = 4 then textK t else (if k = 6 then keysK ks else []) ++ (putL l ++ if k = 5 then [0] else []))
def putL : List V → Bs
  | [] => []
  | v :: l => putV v ++ putL l
end
def cmpI (a b : Int) : Int := if a < b then -1 else if b < a then 1 else 0
def cmpB (a b : Bs) : Int := if ltB a b = true then -1 else if ltB b a = true then 1 else 0
def signI (m : Int) : Int := if m < 0 then -1 else if 0 < m then 1 else 0
def cmpN (m e m' e' : Int) : Int :=
  let d := Go.Lib.decDigits (sizeN m)
  let d' := Go.Lib.decDigits (sizeN m')
  if signI m ≠ signI m' ∨ signI m = 0 then cmpI (signI m) (signI m')
  else if (d.length : Int) + e ≠ (d'.length : Int) + e' then signI m * cmpI ((d.length : Int) + e) ((d'.length : Int) + e')
  else signI m * cmpB d d'
def cmpK : List Bs → List Bs → Int
  | [], [] => 0
  | [], _ :: _ => -1
  | _ :: _, [] => 1
  | a :: l, b :: m => if cmpB a b ≠ 0 then cmpB a b else cmpK l m
mutual
def cmpV : V → V → Int
  | .mk k m e t l ks, b =>
    if k ≠ b.kind then cmpI k b.kind else if k = 3 then cmpN m e b.m b.e else if k = 4 then cmpB t b.text
    else if k = 6 ∧ cmpK ks b.keys ≠ 0 then cmpK ks b.keys else cmpL l b.list
def cmpL : List V → List V → Int
  | [], [] => 0
  | [], _ :: _ => -1
  | _ :: _, [] => 1
  | a :: l, b :: m => if cmpV a b ≠ 0 then cmpV a b else cmpL l m
end
def okN (m e : Int) : Prop := (m = 0 → e = 0) ∧ (m ≠ 0 → sizeN m < 1000000000000000000 ∧ m % 10 ≠ 0 ∧ -64 ≤ e ∧ e ≤ 64)
mutual
def okV : V → Prop
  | .mk k m e t l ks => (0 ≤ k ∧ k ≤ 6) ∧ (k ≠ 3 → m = 0 ∧ e = 0) ∧ (k ≠ 4 → t = []) ∧ (k < 5 → l = []) ∧ (k ≠ 6 → ks = []) ∧ okN m e ∧ (k = 6 → ks.length = l.length) ∧ okL l
def okL : List V → Prop
  | [] => True
  | v :: l => okV v ∧ okL l
end

theorem ltB_cons (a b : UInt8) (x y : Bs) : ltB (a :: x) (b :: y) = if a.toNat < b.toNat then true else if b.toNat < a.toNat then false else ltB x y := rfl
theorem ltB_same (p x y : Bs) : ltB (p ++ x) (p ++ y) = ltB x y := by
  induction p with
  | nil => rfl
  | cons a p ih => rw [List.cons_append, List.cons_append, ltB_cons, if_neg (by omega), if_neg (by omega), ih]
def Dec (c : Int) (p q : Bs) : Prop := (c < 0 → ∀ x y, ltB (p ++ x) (q ++ y) = true) ∧ (0 < c → ∀ x y, ltB (q ++ y) (p ++ x) = true)
theorem Dec.zero (p q : Bs) : Dec 0 p q := ⟨fun h => by omega, fun h => by omega⟩
theorem Dec.app {c : Int} {p q : Bs} (h : Dec c p q) (p' q' : Bs) : Dec c (p ++ p') (q ++ q') :=
  ⟨fun hc x y => by rw [List.append_assoc, List.append_assoc]; exact h.1 hc _ _, fun hc x y => by rw [List.append_assoc, List.append_assoc]; exact h.2 hc _ _⟩
theorem Dec.pre {c : Int} {p q : Bs} (h : Dec c p q) (r : Bs) : Dec c (r ++ p) (r ++ q) :=
  ⟨fun hc x y => by rw [List.append_assoc, List.append_assoc, ltB_same]; exact h.1 hc _ _, fun hc x y => by rw [List.append_assoc, List.append_assoc, ltB_same]; exact h.2 hc _ _⟩
theorem Dec.byte {a b : UInt8} (p q : Bs) {c : Int} (h1 : c < 0 → a.toNat < b.toNat) (h2 : 0 < c → b.toNat < a.toNat) : Dec c (a :: p) (b :: q) :=
  ⟨fun hc x y => by rw [List.cons_append, List.cons_append, ltB_cons, if_pos (h1 hc)], fun hc x y => by rw [List.cons_append, List.cons_append, ltB_cons, if_pos (h2 hc)]⟩
theorem Dec.neg {c : Int} {p q : Bs} (h : Dec c p q) : Dec (-c) q p := ⟨fun hc x y => h.2 (by omega) y x, fun hc x y => h.1 (by omega) y x⟩
theorem cmpI_cases (a b : Int) : (cmpI a b = -1 ∧ a < b) ∨ (cmpI a b = 1 ∧ b < a) ∨ (cmpI a b = 0 ∧ a = b) := by
  unfold cmpI
  split
  · exact .inl ⟨rfl, by assumption⟩
  · split
    · exact .inr (.inl ⟨rfl, by assumption⟩)
    · exact .inr (.inr ⟨rfl, by omega⟩)
theorem cmpB_cases (a b : Bs) : (cmpB a b = -1 ∧ ltB a b = true) ∨ (cmpB a b = 1 ∧ ltB b a = true) ∨ (cmpB a b = 0 ∧ a = b) := by
  unfold cmpB
  rcases ltB_total a b with h | h | h
  · exact .inl ⟨if_pos h, h⟩
  · subst h
    rw [ltB_irrefl]
    exact .inr (.inr ⟨rfl, rfl⟩)
  · exact .inr (.inl ⟨by rw [ltB_asymm h, if_neg (by decide), if_pos h], h⟩)
theorem esc_lt : ∀ {a b : Bs}, ltB a b = true → ∀ x y, ltB (textK a ++ x) (textK b ++ y) = true
  | _, [], h, _, _ => by cases ‹Bs› <;> simp [ltB] at h
  | [], b :: t, _, x, y => by
    by_cases hb : b = 0
    · subst hb
      simp [textK, esc, ltB]
    · simp only [textK, esc, List.flatMap_nil, List.flatMap_cons, if_neg hb, List.nil_append, List.cons_append, ltB_cons]
      have : b.toNat ≠ 0 := fun h => hb (UInt8.toNat_inj.1 h)
      rw [if_pos (by show (0 : UInt8).toNat < b.toNat; simp; omega)]
  | a :: s, b :: t, h, x, y => by
    rw [ltB_cons] at h
    by_cases hab : a = b
    · subst hab
      rw [if_neg (by omega), if_neg (by omega)] at h
      have ih := esc_lt h x y
      have e : ∀ s : Bs, textK (a :: s) = (if a = 0 then [0, 255] else [a]) ++ textK s := fun s => by simp [textK, esc, List.flatMap_cons]
      rw [e, e, List.append_assoc, List.append_assoc, ltB_same]
      exact ih
    · have hne : a.toNat ≠ b.toNat := fun h => hab (UInt8.toNat_inj.1 h)
      have hlt : a.toNat < b.toNat := by
        split at h
        · assumption
        · split at h
          · cases h
          · omega
      have hb : b ≠ 0 := fun e => by rw [e] at hlt; simp at hlt
      have eb : textK (b :: t) = b :: textK t := by simp [textK, esc, List.flatMap_cons, hb]
      by_cases ha : a = 0
      · subst ha
        have ea : textK (0 :: s) = 0 :: 255 :: textK s := by simp [textK, esc, List.flatMap_cons]
        rw [ea, eb]
        show ltB (0 :: (255 :: textK s ++ x)) (b :: (textK t ++ y)) = true
        rw [ltB_cons, if_pos hlt]
      · have ea : textK (a :: s) = a :: textK s := by simp [textK, esc, List.flatMap_cons, ha]
        rw [ea, eb, List.cons_append, List.cons_append, ltB_cons, if_pos hlt]
theorem text_dec (a b : Bs) : Dec (cmpB a b) (textK a) (textK b) := by
  rcases cmpB_cases a b with ⟨e, h⟩ | ⟨e, h⟩ | ⟨e, h⟩
  · rw [e]; exact ⟨fun _ => esc_lt h, fun h => by omega⟩
  · rw [e]; exact ⟨fun h => by omega, fun _ x y => esc_lt h y x⟩
  · rw [e]; exact Dec.zero _ _
theorem cmpK_zero : ∀ {l m : List Bs}, cmpK l m = 0 → l = m
  | [], [], _ => rfl
  | [], _ :: _, h => by simp [cmpK] at h
  | _ :: _, [], h => by simp [cmpK] at h
  | a :: l, b :: m, h => by
    unfold cmpK at h
    split at h
    · next h2 => exact absurd h h2
    · next h2 =>
      rcases cmpB_cases a b with ⟨e, _⟩ | ⟨e, _⟩ | ⟨_, e⟩
      · rw [e] at h2; exact absurd (by decide) h2
      · rw [e] at h2; exact absurd (by decide) h2
      · rw [e, cmpK_zero h]
theorem keys_dec : ∀ l m : List Bs, Dec (cmpK l m) (keysK l) (keysK m)
  | [], [] => Dec.zero _ _
  | [], b :: m => by
    show Dec (-1) (0 :: []) (5 :: _)
    exact Dec.byte _ _ (fun _ => by decide) (fun h => by omega)
  | a :: l, [] => by
    show Dec 1 (5 :: _) (0 :: [])
    exact Dec.byte _ _ (fun h => by omega) (fun _ => by decide)
  | a :: l, b :: m => by
    have e : ∀ (a : Bs) l, keysK (a :: l) = [5] ++ (textK a ++ keysK l) := fun a l => by simp [keysK, List.flatMap_cons]
    rw [e, e]
    unfold cmpK
    split
    · exact ((text_dec a b).app _ _).pre _
    · next h =>
      rcases cmpB_cases a b with ⟨e, _⟩ | ⟨e, _⟩ | ⟨_, e⟩
      · rw [e] at h; exact absurd (by decide) h
      · rw [e] at h; exact absurd (by decide) h
      · subst e
        exact ((keys_dec l m).pre _).pre _
theorem nat_of_u8 {n : Nat} (h : n < 256) : (UInt8.ofNat n).toNat = n := by simp [UInt8.toNat_ofNat']; omega
theorem digit_of (u : Nat) : ∀ c ∈ Go.Lib.decDigits u, 48 ≤ c.toNat ∧ c.toNat ≤ 57 := by
  induction u using Nat.strongRecOn with
  | _ u ih =>
    intro c hc
    rw [Go.Lib.decDigits] at hc
    split at hc
    · rw [List.mem_singleton] at hc
      subst hc
      rw [nat_of_u8 (by omega)]; omega
    · rcases List.mem_append.1 hc with h | h
      · exact ih _ (by omega) c h
      · rw [List.mem_singleton] at h
        subst h
        rw [nat_of_u8 (by omega)]; omega
def valD (d : Bs) : Nat := d.foldl (fun a c => a * 10 + (c.toNat - 48)) 0
theorem valD_dec (u : Nat) : valD (Go.Lib.decDigits u) = u := by
  induction u using Nat.strongRecOn with
  | _ u ih =>
    rw [Go.Lib.decDigits]
    split
    · unfold valD
      rw [List.foldl_cons, List.foldl_nil, nat_of_u8 (by omega)]; omega
    · have := ih (u / 10) (by omega)
      unfold valD at this ⊢
      rw [List.foldl_append, this, List.foldl_cons, List.foldl_nil, nat_of_u8 (by omega)]; omega
theorem dec_inj {u v : Nat} (h : Go.Lib.decDigits u = Go.Lib.decDigits v) : u = v := by rw [← valD_dec u, h, valD_dec]
theorem nDigits_le : ∀ (k u : Nat), u < 10 ^ (k + 1) → Go.Lib.nDigits u ≤ k + 1
  | 0, u, h => by rw [Go.Lib.nDigits_small (by simpa using h)]; exact Nat.le_refl _
  | k + 1, u, h => by
    by_cases hu : u < 10
    · rw [Go.Lib.nDigits_small hu]; omega
    · rw [Go.Lib.nDigits_big hu]
      have := nDigits_le k (u / 10) (by rw [Nat.pow_succ] at h; omega)
      omega
theorem dec_len {u : Nat} (h : u < 1000000000000000000) : 1 ≤ (Go.Lib.decDigits u).length ∧ (Go.Lib.decDigits u).length ≤ 18 := by
  rw [Go.Lib.decDigits_length]
  exact ⟨Go.Lib.nDigits_pos u, nDigits_le 17 u h⟩
theorem dig_up {f : UInt8 → UInt8} {z : UInt8} (hf : ∀ a b : UInt8, 48 ≤ a.toNat ∧ a.toNat ≤ 57 → 48 ≤ b.toNat ∧ b.toNat ≤ 57 → a.toNat < b.toNat → (f a).toNat < (f b).toNat) (hz : ∀ a : UInt8, 48 ≤ a.toNat ∧ a.toNat ≤ 57 → z.toNat < (f a).toNat) :
    ∀ {d d' : Bs}, (∀ c ∈ d, 48 ≤ c.toNat ∧ c.toNat ≤ 57) → (∀ c ∈ d', 48 ≤ c.toNat ∧ c.toNat ≤ 57) → ltB d d' = true → ∀ x y, ltB (d.map f ++ z :: x) (d'.map f ++ z :: y) = true
  | _, [], _, _, h, _, _ => by cases ‹Bs› <;> simp [ltB] at h
  | [], b :: t, _, h2, _, x, y => by
    show ltB (z :: x) (f b :: (t.map f ++ z :: y)) = true
    rw [ltB_cons, if_pos (hz b (h2 b List.mem_cons_self))]
  | a :: s, b :: t, h1, h2, h, x, y => by
    show ltB (f a :: (s.map f ++ z :: x)) (f b :: (t.map f ++ z :: y)) = true
    rw [ltB_cons] at h ⊢
    have ha := h1 a List.mem_cons_self
    have hb := h2 b List.mem_cons_self
    split at h
    · next hl => rw [if_pos (hf a b ha hb hl)]
    · split at h
      · cases h
      · have : a = b := UInt8.toNat_inj.1 (by omega)
        subst this
        rw [if_neg (by omega), if_neg (by omega)]
        exact dig_up hf hz (fun c hc => h1 c (List.mem_cons_of_mem _ hc)) (fun c hc => h2 c (List.mem_cons_of_mem _ hc)) h x y
theorem dig_down {f : UInt8 → UInt8} {z : UInt8} (hf : ∀ a b : UInt8, 48 ≤ a.toNat ∧ a.toNat ≤ 57 → 48 ≤ b.toNat ∧ b.toNat ≤ 57 → a.toNat < b.toNat → (f b).toNat < (f a).toNat) (hz : ∀ a : UInt8, 48 ≤ a.toNat ∧ a.toNat ≤ 57 → (f a).toNat < z.toNat) :
    ∀ {d d' : Bs}, (∀ c ∈ d, 48 ≤ c.toNat ∧ c.toNat ≤ 57) → (∀ c ∈ d', 48 ≤ c.toNat ∧ c.toNat ≤ 57) → ltB d d' = true → ∀ x y, ltB (d'.map f ++ z :: y) (d.map f ++ z :: x) = true
  | _, [], _, _, h, _, _ => by cases ‹Bs› <;> simp [ltB] at h
  | [], b :: t, _, h2, _, x, y => by
    show ltB (f b :: (t.map f ++ z :: y)) (z :: x) = true
    rw [ltB_cons, if_pos (hz b (h2 b List.mem_cons_self))]
  | a :: s, b :: t, h1, h2, h, x, y => by
    show ltB (f b :: (t.map f ++ z :: y)) (f a :: (s.map f ++ z :: x)) = true
    rw [ltB_cons] at h ⊢
    have ha := h1 a List.mem_cons_self
    have hb := h2 b List.mem_cons_self
    split at h
    · next hl => rw [if_pos (hf a b ha hb hl)]
    · split at h
      · cases h
      · have : a = b := UInt8.toNat_inj.1 (by omega)
        subst this
        rw [if_neg (by omega), if_neg (by omega)]
        exact dig_down hf hz (fun c hc => h1 c (List.mem_cons_of_mem _ hc)) (fun c hc => h2 c (List.mem_cons_of_mem _ hc)) h x y
theorem sub47 {a : UInt8} (h : 48 ≤ a.toNat ∧ a.toNat ≤ 57) : (a - 47).toNat = a.toNat - 47 := by
  rw [UInt8.toNat_sub_of_le _ _ (by rw [UInt8.le_iff_toNat_le]; simp; omega)]; rfl
theorem from255 (a : UInt8) : (255 - a).toNat = 255 - a.toNat := by
  have := a.toNat_lt
  rw [UInt8.toNat_sub_of_le _ _ (by rw [UInt8.le_iff_toNat_le]; simp; omega)]; rfl
def ptB (d : Bs) (e : Int) : UInt8 := UInt8.ofNat (100 + (d.length : Int) + e).toNat
theorem ptB_nat {d : Bs} {e : Int} (h1 : 1 ≤ d.length ∧ d.length ≤ 18) (h2 : -64 ≤ e ∧ e ≤ 64) : ((ptB d e).toNat : Int) = 100 + (d.length : Int) + e := by
  unfold ptB
  rw [nat_of_u8 (by omega)]; omega
theorem digK_dec {neg : Bool} {d d' : Bs} {e e' : Int} (h1 : 1 ≤ d.length ∧ d.length ≤ 18) (h2 : -64 ≤ e ∧ e ≤ 64) (h1' : 1 ≤ d'.length ∧ d'.length ≤ 18) (h2' : -64 ≤ e' ∧ e' ≤ 64)
    (hd : ∀ c ∈ d, 48 ≤ c.toNat ∧ c.toNat ≤ 57) (hd' : ∀ c ∈ d', 48 ≤ c.toNat ∧ c.toNat ≤ 57) :
    Dec ((if neg then -1 else 1) * (if (d.length : Int) + e ≠ (d'.length : Int) + e' then cmpI ((d.length : Int) + e) ((d'.length : Int) + e') else cmpB d d')) (digK neg d e) (digK neg d' e') := by
  have p1 := ptB_nat h1 h2
  have p2 := ptB_nat h1' h2'
  have hk : ∀ (d : Bs) (e : Int), digK neg d e = [if neg then 1 else 3] ++ (turnB neg (ptB d e) :: ((d.map fun c => turnB neg (c - 47)) ++ [turnB neg 0])) := fun d e => rfl
  rw [hk, hk]
  refine Dec.pre ?_ _
  by_cases hp : (d.length : Int) + e = (d'.length : Int) + e'
  · rw [if_neg (show ¬ (d.length : Int) + e ≠ (d'.length : Int) + e' from not_not_intro hp)]
    have : ptB d e = ptB d' e' := UInt8.toNat_inj.1 (by omega)
    rw [this]
    show Dec _ ([turnB neg (ptB d' e')] ++ ((d.map fun c => turnB neg (c - 47)) ++ [turnB neg 0])) ([turnB neg (ptB d' e')] ++ ((d'.map fun c => turnB neg (c - 47)) ++ [turnB neg 0]))
    refine Dec.pre ?_ _
    cases neg with
    | false =>
      have hf : ∀ a b : UInt8, 48 ≤ a.toNat ∧ a.toNat ≤ 57 → 48 ≤ b.toNat ∧ b.toNat ≤ 57 → a.toNat < b.toNat → (turnB false (a - 47)).toNat < (turnB false (b - 47)).toNat := fun a b ha hb h => by
        show (a - 47).toNat < (b - 47).toNat
        rw [sub47 ha, sub47 hb]; omega
      have hz : ∀ a : UInt8, 48 ≤ a.toNat ∧ a.toNat ≤ 57 → (turnB false 0).toNat < (turnB false (a - 47)).toNat := fun a ha => by
        show 0 < (a - 47).toNat
        rw [sub47 ha]; omega
      rw [show (if false = true then (-1 : Int) else 1) = 1 from rfl, Int.one_mul]
      rcases cmpB_cases d d' with ⟨e, h⟩ | ⟨e, h⟩ | ⟨e, h⟩
      · rw [e]; exact ⟨fun _ x y => by rw [List.append_assoc, List.append_assoc]; exact dig_up hf hz hd hd' h x y, fun h => by omega⟩
      · rw [e]; exact ⟨fun h => by omega, fun _ x y => by rw [List.append_assoc, List.append_assoc]; exact dig_up hf hz hd' hd h y x⟩
      · rw [e]; exact Dec.zero _ _
    | true =>
      have hf : ∀ a b : UInt8, 48 ≤ a.toNat ∧ a.toNat ≤ 57 → 48 ≤ b.toNat ∧ b.toNat ≤ 57 → a.toNat < b.toNat → (turnB true (b - 47)).toNat < (turnB true (a - 47)).toNat := fun a b ha hb h => by
        show (255 - (b - 47)).toNat < (255 - (a - 47)).toNat
        rw [from255, from255, sub47 ha, sub47 hb]; omega
      have hz : ∀ a : UInt8, 48 ≤ a.toNat ∧ a.toNat ≤ 57 → (turnB true (a - 47)).toNat < (turnB true 0).toNat := fun a ha => by
        show (255 - (a - 47)).toNat < (255 : UInt8).toNat
        rw [from255, sub47 ha]; simp; omega
      rw [show (if true = true then (-1 : Int) else 1) = -1 from rfl]
      rcases cmpB_cases d d' with ⟨e, h⟩ | ⟨e, h⟩ | ⟨e, h⟩
      · rw [e]; exact ⟨fun h => by omega, fun _ x y => by rw [List.append_assoc, List.append_assoc]; exact dig_down hf hz hd hd' h x y⟩
      · rw [e]; exact ⟨fun _ x y => by rw [List.append_assoc, List.append_assoc]; exact dig_down hf hz hd' hd h y x, fun h => by omega⟩
      · rw [e]; exact Dec.zero _ _
  · rw [if_pos hp]
    rcases cmpI_cases ((d.length : Int) + e) ((d'.length : Int) + e') with ⟨q, h⟩ | ⟨q, h⟩ | ⟨q, h⟩
    · rw [q]
      cases neg with
      | false => exact Dec.byte _ _ (fun _ => by show (ptB d e).toNat < (ptB d' e').toNat; omega) (fun h => by simp at h)
      | true => exact Dec.byte _ _ (fun h => by simp at h) (fun _ => by show (255 - ptB d' e').toNat < (255 - ptB d e).toNat; rw [from255, from255]; have := (ptB d' e').toNat_lt; omega)
    · rw [q]
      cases neg with
      | false => exact Dec.byte _ _ (fun h => by simp at h) (fun _ => by show (ptB d' e').toNat < (ptB d e).toNat; omega)
      | true => exact Dec.byte _ _ (fun _ => by show (255 - ptB d e).toNat < (255 - ptB d' e').toNat; rw [from255, from255]; have := (ptB d e).toNat_lt; omega) (fun h => by simp at h)
    · exact absurd h hp
end Go.Kv

namespace Go.Tr
theorem u8_ofNat {n : Nat} (h : n < 256) : (UInt8.ofNat n).toNat = n := by
  rw [UInt8.toNat_ofNat']; exact Nat.mod_eq_of_lt h
theorem pieceB_at {k rest : Bs} (h : k.length < 256) : pieceB (UInt8.ofNat k.length :: (k ++ rest)) = some (k, rest) := by
  have h1 : takeB 1 (UInt8.ofNat k.length :: (k ++ rest)) = some ([UInt8.ofNat k.length], k ++ rest) := by
    unfold takeB; rw [if_neg (by simp)]; rfl
  unfold pieceB
  rw [h1]
  dsimp only []
  rw [u8_ofNat h]
  unfold takeB
  rw [if_neg (by simp), List.take_left, List.drop_left]
theorem kidB_at {c : Nat} {rest : Bs} (h : c < 65536) : kidB (two c ++ rest) = some (c, rest) := by
  have h1 : takeB 2 (two c ++ rest) = some ([UInt8.ofNat (c / 256), UInt8.ofNat c], rest) := by
    unfold takeB two; rw [if_neg (by simp)]; rfl
  unfold kidB
  rw [h1]
  dsimp only []
  rw [u8_ofNat (by omega), UInt8.toNat_ofNat']
  congr 2
  show c / 256 * 256 + c % 256 = c
  omega
theorem parseL_cells : ∀ {keys vals : List Bs} {ks vs : List Bs} {rest : Bs}, vals.length = keys.length → (∀ k ∈ keys, k.length < 256) → (∀ v ∈ vals, v.length < 256) → parseL keys.length ks vs (cells true keys vals [] ++ rest) = some (ks ++ keys, vs ++ vals)
  | [], [], ks, vs, rest, _, _, _ => by simp [parseL]
  | k :: keys, v :: vals, ks, vs, rest, hl, hk, hv => by
    show parseL (keys.length + 1) ks vs (cells true (k :: keys) (v :: vals) [] ++ rest) = _
    unfold parseL
    have e : cells true (k :: keys) (v :: vals) [] ++ rest = UInt8.ofNat k.length :: (k ++ (UInt8.ofNat v.length :: (v ++ (cells true keys vals [] ++ rest)))) := by
      simp [cells]
    rw [e, pieceB_at (hk k (List.mem_cons_self ..))]
    dsimp only []
    rw [pieceB_at (hv v (List.mem_cons_self ..))]
    dsimp only []
    rw [parseL_cells (by simpa using hl) (fun x hx => hk x (List.mem_cons_of_mem _ hx)) (fun x hx => hv x (List.mem_cons_of_mem _ hx))]
    simp
  | [], _ :: _, _, _, _, hl, _, _ => by simp at hl
  | _ :: _, [], _, _, _, hl, _, _ => by simp at hl
theorem parseI_cells : ∀ {keys : List Bs} {kids : List Nat} {ks : List Bs} {cs : List Nat} {rest : Bs}, kids.length = keys.length → (∀ k ∈ keys, k.length < 256) → (∀ c ∈ kids, c < 65536) → parseI keys.length ks cs (cells false keys [] kids ++ rest) = some (ks ++ keys, cs ++ kids)
  | [], [], ks, cs, rest, _, _, _ => by simp [parseI]
  | k :: keys, c :: kids, ks, cs, rest, hl, hk, hc => by
    show parseI (keys.length + 1) ks cs (cells false (k :: keys) [] (c :: kids) ++ rest) = _
    unfold parseI
    have e : cells false (k :: keys) [] (c :: kids) ++ rest = UInt8.ofNat k.length :: (k ++ (two c ++ (cells false keys [] kids ++ rest))) := by
      simp [cells]
    rw [e, pieceB_at (hk k (List.mem_cons_self ..))]
    dsimp only []
    rw [kidB_at (hc c (List.mem_cons_self ..))]
    dsimp only []
    rw [parseI_cells (by simpa using hl) (fun x hx => hk x (List.mem_cons_of_mem _ hx)) (fun x hx => hc x (List.mem_cons_of_mem _ hx))]
    simp
  | [], _ :: _, _, _, _, hl, _, _ => by simp at hl
  | _ :: _, [], _, _, _, hl, _, _ => by simp at hl
theorem sum_cons (f g : Nat → Nat) (n c : Nat) (h0 : f 0 = c) (h : ∀ i, f (i + 1) = g i) : ((List.range (n + 1)).map f).sum = c + ((List.range n).map g).sum := by
  rw [List.range_succ_eq_map, List.map_cons, List.sum_cons, h0, List.map_map]
  congr 3
  funext i
  exact h i
theorem cellsL_len : ∀ {keys vals : List Bs}, vals.length = keys.length → (cells true keys vals []).length = ((List.range keys.length).map fun i => 2 + (keys.getD i []).length + (vals.getD i []).length).sum
  | [], [], _ => rfl
  | k :: keys, v :: vals, hl => by
    have h := cellsL_len (keys := keys) (vals := vals) (by simpa using hl)
    rw [List.length_cons (as := keys), sum_cons _ (fun i => 2 + (keys.getD i []).length + (vals.getD i []).length) keys.length (2 + k.length + v.length) (by simp) (fun i => by simp), ← h]
    simp [cells]; omega
  | [], _ :: _, hl => by simp at hl
  | _ :: _, [], hl => by simp at hl
theorem cellsI_len : ∀ {keys : List Bs} {kids : List Nat}, kids.length = keys.length → (cells false keys [] kids).length = 2 * kids.length + ((List.range keys.length).map fun i => 1 + (keys.getD i []).length).sum
  | [], [], _ => rfl
  | k :: keys, c :: kids, hl => by
    have h := cellsI_len (keys := keys) (kids := kids) (by simpa using hl)
    rw [List.length_cons (as := keys), sum_cons _ (fun i => 1 + (keys.getD i []).length) keys.length (1 + k.length) (by simp) (fun i => by simp)]
    simp [cells, two, h]; omega
  | [], _ :: _, hl => by simp at hl
  | _ :: _, [], hl => by simp at hl
theorem body_len {n : Nd} (h : n.sound) : n.body.length = n.size := by
  obtain ⟨lf, keys, vals, kids⟩ := n
  obtain ⟨_, _, h3⟩ := h
  cases lf with
  | true =>
    simp only [if_true] at h3
    have := cellsL_len (keys := keys) (vals := vals) h3.1
    show (1 :: UInt8.ofNat keys.length :: cells true keys vals []).length = _
    unfold Nd.size
    have e : (Nd.cell ⟨true, keys, vals, kids⟩) = fun i => 2 + (keys.getD i []).length + (vals.getD i []).length := rfl
    rw [e, ← this]
    simp only [List.length_cons, if_true]; omega
  | false =>
    simp only [Bool.false_eq_true, if_false] at h3
    obtain ⟨h4, h5, _⟩ := h3
    cases kids with
    | nil => simp at h5
    | cons c kids =>
      have := cellsI_len (keys := keys) (kids := kids) (by simpa using h5)
      show (2 :: UInt8.ofNat keys.length :: (two c ++ cells false keys [] kids)).length = _
      unfold Nd.size
      have e : (Nd.cell ⟨false, keys, vals, c :: kids⟩) = fun i => 1 + (keys.getD i []).length := rfl
      rw [e]
      simp only [Bool.false_eq_true, if_false, List.length_cons, List.length_append, this, two, List.length_nil]
      omega
theorem keys_few {n : Nd} (h : n.right) : n.keys.length < 256 := by
  have h2 := h.2
  unfold Nd.size at h2
  have key : ∀ (l : List Nat), l.length ≤ (l.map n.cell).sum := by
    intro l
    induction l with
    | nil => simp
    | cons a l ih =>
      have : 1 ≤ n.cell a := by unfold Nd.cell; split <;> omega
      simp only [List.length_cons, List.map_cons, List.sum_cons]; omega
  have := key (List.range n.keys.length)
  rw [List.length_range] at this
  omega
theorem page_len {n : Nd} (h : n.right) : n.page.length = 256 := by
  have := body_len h.1
  have h2 := h.2
  unfold Nd.page pad
  rw [List.length_append, List.length_replicate]
  omega
theorem parseN_page {n : Nd} (h : n.right) : parseN n.page = some n := by
  have hf := keys_few h
  obtain ⟨⟨hk, hr, h3⟩, _⟩ := h
  have hk2 : ∀ k ∈ n.keys, k.length < 256 := fun k hk' => by have := (hk k hk').2; omega
  obtain ⟨lf, keys, vals, kids⟩ := n
  cases lf with
  | true =>
    simp only [if_true] at h3
    obtain ⟨h4, rfl, h5⟩ := h3
    have e : Nd.page ⟨true, keys, vals, []⟩ = 1 :: UInt8.ofNat keys.length :: (cells true keys vals [] ++ List.replicate (256 - (Nd.body ⟨true, keys, vals, []⟩).length) 0) := rfl
    rw [e]
    unfold parseN
    refine (if_pos rfl).trans ?_
    show (match parseL (UInt8.ofNat keys.length).toNat [] [] (cells true keys vals [] ++ _) with
      | some (ks, vs) => some (⟨true, ks, vs, []⟩ : Nd)
      | none => none) = _
    rw [u8_ofNat hf, parseL_cells h4 hk2 fun v hv => by have := h5 v hv; omega]
    rfl
  | false =>
    simp only [Bool.false_eq_true, if_false] at h3
    obtain ⟨rfl, h5, h6⟩ := h3
    cases kids with
    | nil => simp at h5
    | cons c kids =>
      have e : Nd.page ⟨false, keys, [], c :: kids⟩ = 2 :: UInt8.ofNat keys.length :: (two c ++ (cells false keys [] kids ++ List.replicate (256 - (Nd.body ⟨false, keys, [], c :: kids⟩).length) 0)) := by
        show (2 :: UInt8.ofNat keys.length :: (two c ++ cells false keys [] kids)) ++ _ = _
        simp
      rw [e]
      unfold parseN
      refine (if_neg (show ¬ ((2 : UInt8) = 1) by decide)).trans ?_
      show (match kidB (two c ++ (cells false keys [] kids ++ _)) with
        | none => none
        | some (c, l) => match parseI (UInt8.ofNat keys.length).toNat [] [c] l with
          | some (ks, cs) => some (⟨false, ks, [], cs⟩ : Nd)
          | none => none) = _
      rw [kidB_at (by have := h6 c (List.mem_cons_self ..); omega)]
      dsimp only []
      rw [u8_ofNat hf, parseI_cells (by simpa using h5) hk2 fun x hx => by have := h6 x (List.mem_cons_of_mem _ hx); omega]
      rfl
theorem readN_page {n : Nd} (h : n.right) : readN n.page = some n := by
  unfold readN
  rw [if_pos (page_len h), parseN_page h]
  dsimp only []
  rw [if_pos ⟨h, rfl⟩]
theorem readN_some {b : Bs} {n : Nd} (h : readN b = some n) : n.right ∧ n.page = b := by
  unfold readN at h
  split at h
  · split at h
    · split at h
      · next h1 => cases h; exact h1
      · cases h
    · cases h
  · cases h
end Go.Tr

namespace Go.Pa
open Go.Tr
abbrev Ph := Nat → Option Bs
def Ph.le (h k : Ph) : Prop := ∀ i o, h i = some o → k i = some o
def Ph.apart (h k : Ph) : Prop := ∀ i, h i = none ∨ k i = none
def Ph.un (h k : Ph) : Ph := fun i => match h i with | some o => some o | none => k i
abbrev PA := Ph → Prop
def Al : List PA → Ph → Prop
  | [], _ => True
  | A :: l, h => ∃ h1 h2, Ph.apart h1 h2 ∧ Ph.le h1 h ∧ Ph.le h2 h ∧ A h1 ∧ Al l h2

theorem Ph.le_refl (h : Ph) : h.le h := fun _ _ e => e
theorem Ph.le_trans {a b c : Ph} (h : a.le b) (k : b.le c) : a.le c := fun i o e => k i o (h i o e)
theorem Ph.apart_symm {h k : Ph} (a : h.apart k) : k.apart h := fun i => (a i).symm
theorem Ph.apart_le {h k h' k' : Ph} (a : h.apart k) (hl : h'.le h) (kl : k'.le k) : h'.apart k' := fun i => by
  cases e1 : h' i with
  | none => exact .inl rfl
  | some o =>
    cases e2 : k' i with
    | none => exact .inr rfl
    | some o' =>
      rcases a i with e | e
      · rw [hl i o e1] at e; cases e
      · rw [kl i o' e2] at e; cases e
theorem Ph.le_un_left (h k : Ph) : h.le (h.un k) := fun i o e => by simp [Ph.un, e]
theorem Ph.le_un_right {h k : Ph} (a : h.apart k) : k.le (h.un k) := fun i o e => by
  rcases a i with e' | e'
  · simp [Ph.un, e', e]
  · rw [e] at e'; cases e'
theorem Ph.un_le {h k m : Ph} (a : h.le m) (b : k.le m) : (h.un k).le m := fun i o e => by
  unfold Ph.un at e
  cases e1 : h i with
  | none => rw [e1] at e; exact b i o e
  | some o' => rw [e1] at e; cases e; exact a i o e1
theorem Ph.un_apart {h k m : Ph} (a : h.apart m) (b : k.apart m) : (h.un k).apart m := fun i => by
  rcases a i with e | e
  · rcases b i with e' | e'
    · exact .inl (by simp [Ph.un, e, e'])
    · exact .inr e'
  · exact .inr e

theorem Al.mono {l : List PA} {h k : Ph} (a : Al l h) (hk : h.le k) : Al l k := by
  cases l with
  | nil => trivial
  | cons A l =>
    obtain ⟨h1, h2, ap, l1, l2, hA, hl⟩ := a
    exact ⟨h1, h2, ap, Ph.le_trans l1 hk, Ph.le_trans l2 hk, hA, hl⟩
theorem Al.tail {A : PA} {l : List PA} {h : Ph} (a : Al (A :: l) h) : Al l h := by
  obtain ⟨_, _, _, _, l2, _, hl⟩ := a
  exact hl.mono l2
theorem Al.swap {A B : PA} {l : List PA} {h : Ph} (a : Al (A :: B :: l) h) : Al (B :: A :: l) h := by
  obtain ⟨h1, h2, ap, l1, l2, hA, h3, h4, ap', l3, l4, hB, hl⟩ := a
  have a13 : Ph.apart h1 h3 := Ph.apart_le ap (Ph.le_refl _) l3
  have a14 : Ph.apart h1 h4 := Ph.apart_le ap (Ph.le_refl _) l4
  exact ⟨h3, h1.un h4, Ph.apart_symm (Ph.un_apart a13 (Ph.apart_symm ap')), Ph.le_trans l3 l2, Ph.un_le l1 (Ph.le_trans l4 l2), hB,
    h1, h4, a14, Ph.le_un_left _ _, Ph.le_un_right a14, hA, hl⟩
theorem Al.imp {l : List PA} {A B : PA} {h : Ph} (a : Al (A :: l) h) (hi : ∀ k, A k → B k) : Al (B :: l) h := by
  obtain ⟨h1, h2, ap, l1, l2, hA, hl⟩ := a
  exact ⟨h1, h2, ap, l1, l2, hi _ hA, hl⟩
theorem Al.cons_imp {l l' : List PA} {A : PA} {h : Ph} (a : Al (A :: l) h) (hi : ∀ k, Al l k → Al l' k) : Al (A :: l') h := by
  obtain ⟨h1, h2, ap, l1, l2, hA, hl⟩ := a
  exact ⟨h1, h2, ap, l1, l2, hA, hi _ hl⟩
theorem Al.head {A : PA} {l : List PA} {h : Ph} (a : Al (A :: l) h) : Al [A] h := by
  obtain ⟨h1, h2, ap, l1, l2, hA, _⟩ := a
  exact ⟨h1, h2, ap, l1, l2, hA, trivial⟩
theorem Al.pull {l : List PA} {h : Ph} (i : Nat) {A : PA} (hi : l[i]? = some A) (a : Al l h) : Al (A :: l.eraseIdx i) h := by
  induction l generalizing i h with
  | nil => simp at hi
  | cons B l ih =>
    cases i with
    | zero => simp at hi; subst hi; exact a
    | succ i =>
      simp at hi
      exact Al.swap (a.cons_imp fun k hk => ih i hi hk)
theorem Al.push_ {l : List PA} {h : Ph} (i : Nat) {A : PA} (hi : i ≤ l.length) (a : Al (A :: l) h) : Al (l.insertIdx i A) h := by
  induction l generalizing i h with
  | nil => have : i = 0 := by simpa using hi
           subst this; exact a
  | cons B l ih =>
    cases i with
    | zero => exact a
    | succ i => exact a.swap.cons_imp fun k hk => ih i (by simpa using hi) hk
theorem Al.append_iff {l m : List PA} {h : Ph} : Al (l ++ m) h ↔ ∃ h1 h2, Ph.apart h1 h2 ∧ Ph.le h1 h ∧ Ph.le h2 h ∧ Al l h1 ∧ Al m h2 := by
  induction l generalizing h with
  | nil => exact ⟨fun a => ⟨fun _ => none, h, fun _ => .inl rfl, fun _ _ e => (by cases e), Ph.le_refl _, trivial, a⟩, fun ⟨_, _, _, _, l2, _, hm⟩ => hm.mono l2⟩
  | cons A l ih =>
    constructor
    · rintro ⟨h1, h2, ap, l1, l2, hA, hl⟩
      obtain ⟨h3, h4, ap', l3, l4, hl', hm⟩ := ih.1 hl
      have a13 := Ph.apart_le ap (Ph.le_refl _) l3
      have a14 := Ph.apart_le ap (Ph.le_refl _) l4
      exact ⟨h1.un h3, h4, Ph.un_apart a14 ap', Ph.un_le l1 (Ph.le_trans l3 l2), Ph.le_trans l4 l2,
        ⟨h1, h3, a13, Ph.le_un_left _ _, Ph.le_un_right a13, hA, hl'⟩, hm⟩
    · rintro ⟨h1, h2, ap, l1, l2, ⟨h3, h4, ap', l3, l4, hA, hl⟩, hm⟩
      have a32 := Ph.apart_le ap l3 (Ph.le_refl _)
      have a42 := Ph.apart_le ap l4 (Ph.le_refl _)
      exact ⟨h3, h4.un h2, Ph.apart_symm (Ph.un_apart (Ph.apart_symm ap') (Ph.apart_symm a32)), Ph.le_trans l3 l1, Ph.un_le (Ph.le_trans l4 l1) l2, hA,
        ih.2 ⟨h4, h2, a42, Ph.le_un_left _ _, Ph.le_un_right a42, hl, hm⟩⟩
def pickAt {α : Type} (l : List α) : List Nat → Option (List α)
  | [] => some []
  | i :: is => match l[i]?, pickAt l is with
    | some A, some r => some (A :: r)
    | _, _ => none
def distinct : List Nat → Bool
  | [] => true
  | i :: is => is.all (fun j => !Nat.beq i j) && distinct is
theorem Al.pick_ {l : List PA} {h : Ph} (a : Al l h) : ∀ (is : List Nat) (r : List PA), distinct is = true → pickAt l is = some r → Al r h := by
  -- by the parts' heaps, told place by place
  have key : ∀ (l : List PA) (h : Ph), Al l h → ∃ f : Nat → Ph, (∀ i j, i ≠ j → Ph.apart (f i) (f j)) ∧ (∀ i, Ph.le (f i) h) ∧ ∀ (i : Nat) (A : PA), l[i]? = some A → A (f i) := by
    intro l
    induction l with
    | nil => exact fun h _ => ⟨fun _ _ => none, fun _ _ _ _ => .inl rfl, fun _ _ _ e => (by cases e), fun i A e => (by simp at e)⟩
    | cons A l ih =>
      rintro h ⟨h1, h2, ap, l1, l2, hA, hl⟩
      obtain ⟨f, f1, f2, f3⟩ := ih h2 hl
      refine ⟨fun i => match i with | 0 => h1 | i + 1 => f i, ?_, ?_, ?_⟩
      · intro i j hij
        cases i with
        | zero => cases j with
          | zero => exact absurd rfl hij
          | succ j => exact Ph.apart_le ap (Ph.le_refl _) (f2 j)
        | succ i => cases j with
          | zero => exact Ph.apart_symm (Ph.apart_le ap (Ph.le_refl _) (f2 i))
          | succ j => exact f1 i j (by omega)
      · intro i; cases i with
        | zero => exact l1
        | succ i => exact Ph.le_trans (f2 i) l2
      · intro i B hB; cases i with
        | zero => simp at hB; subst hB; exact hA
        | succ i => simp at hB; exact f3 i B hB
  obtain ⟨f, f1, f2, f3⟩ := key l h a
  have fin : ∀ (is : List Nat) (r : List PA), distinct is = true → pickAt l is = some r → ∃ k : Ph, Ph.le k h ∧ (∀ j, j ∉ is → Ph.apart (f j) k) ∧ Al r k := by
    intro is
    induction is with
    | nil => intro r _ hr; simp [pickAt] at hr; subst hr; exact ⟨fun _ => none, fun _ _ e => (by cases e), fun _ _ _ => .inr rfl, trivial⟩
    | cons i is ih =>
      intro r hd hr
      simp only [distinct, Bool.and_eq_true, List.all_eq_true, Bool.not_eq_true', ] at hd
      obtain ⟨hni, hd⟩ := hd
      simp only [pickAt] at hr
      split at hr
      · rename_i A r' hA hr'
        cases hr
        obtain ⟨k, k1, k2, k3⟩ := ih r' hd hr'
        have hi : i ∉ is := fun hm => by have := hni i hm; simp at this
        have ap := k2 i hi
        refine ⟨(f i).un k, Ph.un_le (f2 i) k1, fun j hj => ?_, f i, k, ap, Ph.le_un_left _ _, Ph.le_un_right ap, f3 i A hA, k3⟩
        simp only [List.mem_cons, not_or] at hj
        exact Ph.apart_symm (Ph.un_apart (f1 i j (Ne.symm hj.1)) (Ph.apart_symm (k2 j hj.2)))
      · cases hr
  intro is r hd hr
  obtain ⟨k, k1, _, k3⟩ := fin is r hd hr
  exact k3.mono k1

end Go.Pa
