/- Texts in quotes: the document's functions, characters. -/
import Derived.Test.YtmloccinejhopaaDoorQc
set_option linter.unusedVariables false
set_option linter.unusedSimpArgs false
namespace Go.Proofs.YtmloccinejhopaaDoor
open Go Go.Sl Go.Qt Go.Lib
attribute [local irreducible] LooksAt

/-! #### Digits -/
def tabL : Bs := [48, 49, 50, 51, 52, 53, 54, 55, 56, 57, 97, 98, 99, 100, 101, 102]
def adj (z : Nat) : Nat := if 65 ≤ z ∧ z ≤ 70 then z + 32 else z
set_option maxRecDepth 100000 in
theorem dig_some : ∀ z : Fin 256, ∀ i : Fin 16, (tabL.getD i.val 0).toNat = adj z.val → dig (UInt8.ofNat z.val) = some i.val := by decide +kernel
set_option maxRecDepth 100000 in
theorem dig_none : ∀ z : Fin 256, (∀ i : Fin 16, (tabL.getD i.val 0).toNat ≠ adj z.val) → dig (UInt8.ofNat z.val) = none := by decide +kernel
def digV (o : Option Nat) : Int := match o with | none => -1 | some n => (n : Int)
theorem digit_spec {F : List Assn} {w : World} (c : UInt8) (hs : Sat F w) :
    Ret Tryd.prog 30 [byte c] w fun v w' => v = int (digV (dig c)) ∧ w' = w := by
  have hb := UInt8.toNat_lt c
  have hc : UInt8.ofNat c.toNat = c := by simp
  have d1 : ∀ i, i < 16 → (tabL.getD i 0).toNat = adj c.toNat → dig c = some i := fun i hi h => by
    have := dig_some ⟨c.toNat, by omega⟩ ⟨i, hi⟩ h
    rwa [hc] at this
  have d2 : (∀ i, i < 16 → (tabL.getD i 0).toNat ≠ adj c.toNat) → dig c = none := fun h => by
    have := dig_none ⟨c.toNat, by omega⟩ fun i => h i.val i.isLt
    rwa [hc] at this
  by_cases h65 : 65 ≤ c.toNat ∧ c.toNat ≤ 70
  · have hz : IntKind.u8.wrap (IntKind.u8.wrap ((c.toNat : Int) - 65) + 97) = ((adj c.toNat : Nat) : Int) := by
      rw [adj, if_pos h65]; simp only [wrap_u8]; omega
    obtain ⟨z, hz1⟩ : ∃ z : Int, IntKind.u8.wrap (IntKind.u8.wrap ((c.toNat : Int) - 65) + 97) = z := ⟨_, rfl⟩
    rw [hz1] at hz
    refine Ret.enter [(true, byte c)] _ Tryd.func30 rfl Tryd.ntmps30 rfl ?_
    repeat (first | (refine MC.run1 tab 1000 rfl rfl (by first | exact True.intro | (simp only [Conds, rng, Int.toNat_natCast, List.length_append, bytesV_length] <;> omega) | (simp [Conds, rng] <;> omega) | (simp only [Conds, rng, wrap_u8, wrap_u16, wrap_u32, wrap_u64] <;> omega)) ?_) | (refine MC.la true (la_load1 hs rfl (by rfl)) rfl ?_) | (refine MC.part rfl rfl (fun h => absurd h (by first | decide | omega)) (fun _ => ?_)) | (refine MC.part rfl rfl (fun _ => ?_) (fun h => absurd (by first | decide | omega) h)) | (refine MC.cond rfl (fun h => absurd h (by first | decide | omega)) (fun _ => ?_)) | (refine MC.cond rfl (fun _ => ?_) (fun h => absurd (by first | decide | omega) h)))
    rw [hz1]
    refine MC.loop (σ := Nat) (fun i => [(0, true, .int .u8 (z)), (3, true, int ((i : Nat) : Int))])
      (fun i w' => i ≤ 16 ∧ (∀ j, j < i → (tabL.getD j 0).toNat ≠ adj c.toNat) ∧ w' = w) (fun i => 16 - i) 0 (by repeat (first | exact trivial | refine ⟨rfl, ?_⟩)) ⟨by omega, fun j hj => absurd hj (by omega), rfl⟩ ?_
    rintro i w' ⟨hi, hall, rfl⟩
    repeat (first | (refine MC.run1 tab 1000 rfl rfl (by first | exact True.intro | (simp only [Conds, rng, Int.toNat_natCast, List.length_append, bytesV_length] <;> omega) | (simp [Conds, rng] <;> omega) | (simp only [Conds, rng, wrap_u8, wrap_u16, wrap_u32, wrap_u64] <;> omega)) ?_) | (refine MC.la true (la_load1 hs rfl (by rfl)) rfl ?_) | (refine MC.part rfl rfl (fun h => absurd h (by first | decide | omega)) (fun _ => ?_)) | (refine MC.part rfl rfl (fun _ => ?_) (fun h => absurd (by first | decide | omega) h)) | (refine MC.cond rfl (fun h => absurd h (by first | decide | omega)) (fun _ => ?_)) | (refine MC.cond rfl (fun _ => ?_) (fun h => absurd (by first | decide | omega) h)))
    refine MC.cond rfl (fun hlt => ?_) (fun hge => ?_)
    · have hlt : i < 16 := by omega
      have ht : byteAt tabL ((i : Nat) : Int).toNat = ((tabL.getD i 0).toNat : Int) := rfl
      have hl16 : ((tabL.length : Nat) : Int) = 16 := rfl
      refine MC.run1 tab 1000 rfl rfl (by exact ⟨by omega, by show (i : Int) < 16; omega⟩) ?_
      refine MC.cond rfl (fun h => ?_) (fun h => ?_)
      · have h : ((tabL.getD i 0).toNat : Int) = z := h
        have hd := d1 i hlt (by omega)
        repeat (first | (refine MC.run1 tab 1000 rfl rfl (by first | exact True.intro | (simp only [Conds, rng, Int.toNat_natCast, List.length_append, bytesV_length] <;> omega) | (simp [Conds, rng] <;> omega) | (simp only [Conds, rng, wrap_u8, wrap_u16, wrap_u32, wrap_u64] <;> omega)) ?_) | (refine MC.la true (la_load1 hs rfl (by rfl)) rfl ?_) | (refine MC.part rfl rfl (fun h => absurd h (by first | decide | omega)) (fun _ => ?_)) | (refine MC.part rfl rfl (fun _ => ?_) (fun h => absurd (by first | decide | omega) h)) | (refine MC.cond rfl (fun h => absurd h (by first | decide | omega)) (fun _ => ?_)) | (refine MC.cond rfl (fun _ => ?_) (fun h => absurd (by first | decide | omega) h)))
        refine MC.ret rfl ?_
        rw [hd]
        exact ⟨rfl, rfl⟩
      · have h : ¬ ((tabL.getD i 0).toNat : Int) = z := h
        repeat (first | (refine MC.run1 tab 1000 rfl rfl (by first | exact True.intro | (simp only [Conds, rng, Int.toNat_natCast, List.length_append, bytesV_length] <;> omega) | (simp [Conds, rng] <;> omega) | (simp only [Conds, rng, wrap_u8, wrap_u16, wrap_u32, wrap_u64] <;> omega)) ?_) | (refine MC.la true (la_load1 hs rfl (by rfl)) rfl ?_) | (refine MC.part rfl rfl (fun h => absurd h (by first | decide | omega)) (fun _ => ?_)) | (refine MC.part rfl rfl (fun _ => ?_) (fun h => absurd (by first | decide | omega) h)) | (refine MC.cond rfl (fun h => absurd h (by first | decide | omega)) (fun _ => ?_)) | (refine MC.cond rfl (fun _ => ?_) (fun h => absurd (by first | decide | omega) h)))
        refine MC.again (i + 1) (by repeat (first | exact trivial | refine ⟨rfl, ?_⟩)) ⟨hlt, fun j hj => ?_, rfl⟩ (by omega)
        rcases Nat.lt_or_ge j i with h' | h'
        · exact hall j h'
        · obtain rfl : j = i := by omega
          omega
    · obtain rfl : i = 16 := by omega
      have hd := d2 hall
      repeat (first | (refine MC.run1 tab 1000 rfl rfl (by first | exact True.intro | (simp only [Conds, rng, Int.toNat_natCast, List.length_append, bytesV_length] <;> omega) | (simp [Conds, rng] <;> omega) | (simp only [Conds, rng, wrap_u8, wrap_u16, wrap_u32, wrap_u64] <;> omega)) ?_) | (refine MC.la true (la_load1 hs rfl (by rfl)) rfl ?_) | (refine MC.part rfl rfl (fun h => absurd h (by first | decide | omega)) (fun _ => ?_)) | (refine MC.part rfl rfl (fun _ => ?_) (fun h => absurd (by first | decide | omega) h)) | (refine MC.cond rfl (fun h => absurd h (by first | decide | omega)) (fun _ => ?_)) | (refine MC.cond rfl (fun _ => ?_) (fun h => absurd (by first | decide | omega) h)))
      refine MC.ret rfl ?_
      rw [hd]
      exact ⟨rfl, rfl⟩
  · have hz : (c.toNat : Int) = ((adj c.toNat : Nat) : Int) := by rw [adj, if_neg h65]
    refine Ret.enter [(true, byte c)] _ Tryd.func30 rfl Tryd.ntmps30 rfl ?_
    repeat (first | (refine MC.run1 tab 1000 rfl rfl (by first | exact True.intro | (simp only [Conds, rng, Int.toNat_natCast, List.length_append, bytesV_length] <;> omega) | (simp [Conds, rng] <;> omega) | (simp only [Conds, rng, wrap_u8, wrap_u16, wrap_u32, wrap_u64] <;> omega)) ?_) | (refine MC.la true (la_load1 hs rfl (by rfl)) rfl ?_) | (refine MC.part rfl rfl (fun h => absurd h (by first | decide | omega)) (fun _ => ?_)) | (refine MC.part rfl rfl (fun _ => ?_) (fun h => absurd (by first | decide | omega) h)) | (refine MC.cond rfl (fun h => absurd h (by first | decide | omega)) (fun _ => ?_)) | (refine MC.cond rfl (fun _ => ?_) (fun h => absurd (by first | decide | omega) h)))
    refine MC.cutAtS (σ := Unit) 1 (fun _ => [(9, true, bool false), (0, true, byte c)]) (fun _ w' => w' = w) rfl ?_ ?_
    rotate_left
    · (try dsimp only [List.drop_succ_cons, List.drop_zero, List.take_succ_cons, List.take_zero, List.cons_append, List.nil_append])
      refine MC.part rfl rfl (fun h => ?_) (fun h => ?_)
      · refine MC.run1 tab 1000 rfl rfl (by first | exact True.intro | (simp only [Conds, rng, Int.toNat_natCast, List.length_append, bytesV_length] <;> omega) | (simp [Conds, rng] <;> omega) | (simp only [Conds, rng, wrap_u8, wrap_u16, wrap_u32, wrap_u64] <;> omega)) ?_
        refine MC.meetS () ⟨?_, rfl, trivial⟩ rfl
        exact congrArg (fun b => some (bool b)) (decide_eq_false (by omega))
      · repeat (first | (refine MC.run1 tab 1000 rfl rfl (by first | exact True.intro | (simp only [Conds, rng, Int.toNat_natCast, List.length_append, bytesV_length] <;> omega) | (simp [Conds, rng] <;> omega) | (simp only [Conds, rng, wrap_u8, wrap_u16, wrap_u32, wrap_u64] <;> omega)) ?_) | (refine MC.la true (la_load1 hs rfl (by rfl)) rfl ?_) | (refine MC.part rfl rfl (fun h => absurd h (by first | decide | omega)) (fun _ => ?_)) | (refine MC.part rfl rfl (fun _ => ?_) (fun h => absurd (by first | decide | omega) h)) | (refine MC.cond rfl (fun h => absurd h (by first | decide | omega)) (fun _ => ?_)) | (refine MC.cond rfl (fun _ => ?_) (fun h => absurd (by first | decide | omega) h)))
        exact MC.meetS () ⟨rfl, rfl, trivial⟩ rfl
    rintro _ w' rfl
    (try dsimp only [List.drop_succ_cons, List.drop_zero, List.take_succ_cons, List.take_zero, List.cons_append, List.nil_append])
    repeat (first | (refine MC.run1 tab 1000 rfl rfl (by first | exact True.intro | (simp only [Conds, rng, Int.toNat_natCast, List.length_append, bytesV_length] <;> omega) | (simp [Conds, rng] <;> omega) | (simp only [Conds, rng, wrap_u8, wrap_u16, wrap_u32, wrap_u64] <;> omega)) ?_) | (refine MC.la true (la_load1 hs rfl (by rfl)) rfl ?_) | (refine MC.part rfl rfl (fun h => absurd h (by first | decide | omega)) (fun _ => ?_)) | (refine MC.part rfl rfl (fun _ => ?_) (fun h => absurd (by first | decide | omega) h)) | (refine MC.cond rfl (fun h => absurd h (by first | decide | omega)) (fun _ => ?_)) | (refine MC.cond rfl (fun _ => ?_) (fun h => absurd (by first | decide | omega) h)))
    refine MC.loop (σ := Nat) (fun i => [(0, true, .int .u8 ((c.toNat : Int))), (3, true, int ((i : Nat) : Int))])
      (fun i w'' => i ≤ 16 ∧ (∀ j, j < i → (tabL.getD j 0).toNat ≠ adj c.toNat) ∧ w'' = w') (fun i => 16 - i) 0 (by repeat (first | exact trivial | refine ⟨rfl, ?_⟩)) ⟨by omega, fun j hj => absurd hj (by omega), rfl⟩ ?_
    rintro i w'' ⟨hi, hall, rfl⟩
    repeat (first | (refine MC.run1 tab 1000 rfl rfl (by first | exact True.intro | (simp only [Conds, rng, Int.toNat_natCast, List.length_append, bytesV_length] <;> omega) | (simp [Conds, rng] <;> omega) | (simp only [Conds, rng, wrap_u8, wrap_u16, wrap_u32, wrap_u64] <;> omega)) ?_) | (refine MC.la true (la_load1 hs rfl (by rfl)) rfl ?_) | (refine MC.part rfl rfl (fun h => absurd h (by first | decide | omega)) (fun _ => ?_)) | (refine MC.part rfl rfl (fun _ => ?_) (fun h => absurd (by first | decide | omega) h)) | (refine MC.cond rfl (fun h => absurd h (by first | decide | omega)) (fun _ => ?_)) | (refine MC.cond rfl (fun _ => ?_) (fun h => absurd (by first | decide | omega) h)))
    refine MC.cond rfl (fun hlt => ?_) (fun hge => ?_)
    · have hlt : i < 16 := by omega
      have ht : byteAt tabL ((i : Nat) : Int).toNat = ((tabL.getD i 0).toNat : Int) := rfl
      have hl16 : ((tabL.length : Nat) : Int) = 16 := rfl
      refine MC.run1 tab 1000 rfl rfl (by exact ⟨by omega, by show (i : Int) < 16; omega⟩) ?_
      refine MC.cond rfl (fun h => ?_) (fun h => ?_)
      · have h : ((tabL.getD i 0).toNat : Int) = (c.toNat : Int) := h
        have hd := d1 i hlt (by omega)
        repeat (first | (refine MC.run1 tab 1000 rfl rfl (by first | exact True.intro | (simp only [Conds, rng, Int.toNat_natCast, List.length_append, bytesV_length] <;> omega) | (simp [Conds, rng] <;> omega) | (simp only [Conds, rng, wrap_u8, wrap_u16, wrap_u32, wrap_u64] <;> omega)) ?_) | (refine MC.la true (la_load1 hs rfl (by rfl)) rfl ?_) | (refine MC.part rfl rfl (fun h => absurd h (by first | decide | omega)) (fun _ => ?_)) | (refine MC.part rfl rfl (fun _ => ?_) (fun h => absurd (by first | decide | omega) h)) | (refine MC.cond rfl (fun h => absurd h (by first | decide | omega)) (fun _ => ?_)) | (refine MC.cond rfl (fun _ => ?_) (fun h => absurd (by first | decide | omega) h)))
        refine MC.ret rfl ?_
        rw [hd]
        exact ⟨rfl, rfl⟩
      · have h : ¬ ((tabL.getD i 0).toNat : Int) = (c.toNat : Int) := h
        repeat (first | (refine MC.run1 tab 1000 rfl rfl (by first | exact True.intro | (simp only [Conds, rng, Int.toNat_natCast, List.length_append, bytesV_length] <;> omega) | (simp [Conds, rng] <;> omega) | (simp only [Conds, rng, wrap_u8, wrap_u16, wrap_u32, wrap_u64] <;> omega)) ?_) | (refine MC.la true (la_load1 hs rfl (by rfl)) rfl ?_) | (refine MC.part rfl rfl (fun h => absurd h (by first | decide | omega)) (fun _ => ?_)) | (refine MC.part rfl rfl (fun _ => ?_) (fun h => absurd (by first | decide | omega) h)) | (refine MC.cond rfl (fun h => absurd h (by first | decide | omega)) (fun _ => ?_)) | (refine MC.cond rfl (fun _ => ?_) (fun h => absurd (by first | decide | omega) h)))
        refine MC.again (i + 1) (by repeat (first | exact trivial | refine ⟨rfl, ?_⟩)) ⟨hlt, fun j hj => ?_, rfl⟩ (by omega)
        rcases Nat.lt_or_ge j i with h' | h'
        · exact hall j h'
        · obtain rfl : j = i := by omega
          omega
    · obtain rfl : i = 16 := by omega
      have hd := d2 hall
      repeat (first | (refine MC.run1 tab 1000 rfl rfl (by first | exact True.intro | (simp only [Conds, rng, Int.toNat_natCast, List.length_append, bytesV_length] <;> omega) | (simp [Conds, rng] <;> omega) | (simp only [Conds, rng, wrap_u8, wrap_u16, wrap_u32, wrap_u64] <;> omega)) ?_) | (refine MC.la true (la_load1 hs rfl (by rfl)) rfl ?_) | (refine MC.part rfl rfl (fun h => absurd h (by first | decide | omega)) (fun _ => ?_)) | (refine MC.part rfl rfl (fun _ => ?_) (fun h => absurd (by first | decide | omega) h)) | (refine MC.cond rfl (fun h => absurd h (by first | decide | omega)) (fun _ => ?_)) | (refine MC.cond rfl (fun _ => ?_) (fun h => absurd (by first | decide | omega) h)))
      refine MC.ret rfl ?_
      rw [hd]
      exact ⟨rfl, rfl⟩

/-! #### Numbers behind a backslash and u -/
def unitL : Bs → Int
  | 92 :: 117 :: w => digV (hex4 w)
  | _ => -1
theorem unit_spec {F : List Assn} {w : World} (s : Bs) (hs : Sat F w) (hl : s.length ≤ 140737488355328) :
    Ret Tryd.prog 28 [str s] w fun v w' => v = int (unitL s) ∧ w' = w := by
  refine Ret.enter [(true, str s)] _ Tryd.func28 rfl Tryd.ntmps28 rfl ?_
  repeat (first | (refine MC.run1 tab 1000 rfl rfl (by first | exact True.intro | (simp only [Conds, rng, Int.toNat_natCast, List.length_append, bytesV_length] <;> omega) | (simp [Conds, rng] <;> omega) | (simp only [Conds, rng, wrap_u8, wrap_u16, wrap_u32, wrap_u64] <;> omega)) ?_) | (refine MC.la true (la_load1 hs rfl (by rfl)) rfl ?_) | (refine MC.part rfl rfl (fun h => absurd h (by first | decide | omega)) (fun _ => ?_)) | (refine MC.part rfl rfl (fun _ => ?_) (fun h => absurd (by first | decide | omega) h)) | (refine MC.cond rfl (fun h => absurd h (by first | decide | omega)) (fun _ => ?_)) | (refine MC.cond rfl (fun _ => ?_) (fun h => absurd (by first | decide | omega) h)))
  refine MC.part rfl rfl (fun h1 => ?_) (fun h1 => ?_)
  · have e : unitL s = -1 := by
      unfold unitL
      split
      · rename_i w
        rw [hex4_short w (by simp only [List.length_cons] at h1; omega)]; rfl
      · rfl
    rw [e]
    repeat (first | (refine MC.run1 tab 1000 rfl rfl (by first | exact True.intro | (simp only [Conds, rng, Int.toNat_natCast, List.length_append, bytesV_length] <;> omega) | (simp [Conds, rng] <;> omega) | (simp only [Conds, rng, wrap_u8, wrap_u16, wrap_u32, wrap_u64] <;> omega)) ?_) | (refine MC.la true (la_load1 hs rfl (by rfl)) rfl ?_) | (refine MC.part rfl rfl (fun h => absurd h (by first | decide | omega)) (fun _ => ?_)) | (refine MC.part rfl rfl (fun _ => ?_) (fun h => absurd (by first | decide | omega) h)) | (refine MC.cond rfl (fun h => absurd h (by first | decide | omega)) (fun _ => ?_)) | (refine MC.cond rfl (fun _ => ?_) (fun h => absurd (by first | decide | omega) h)))
    refine MC.ret rfl ?_
    exact ⟨rfl, rfl⟩
  have h6 : 6 ≤ s.length := by omega
  obtain ⟨a, b, u, rfl⟩ : ∃ a b u, s = a :: b :: u := by
    match s, h6 with
    | a :: b :: u, _ => exact ⟨a, b, u, rfl⟩
  have ba : byteAt (a :: b :: u) (0 : Int).toNat = (a.toNat : Int) := rfl
  have bb : byteAt (a :: b :: u) (1 : Int).toNat = (b.toNat : Int) := rfl
  repeat (first | (refine MC.run1 tab 1000 rfl rfl (by first | exact True.intro | (simp only [Conds, rng, Int.toNat_natCast, List.length_append, bytesV_length] <;> omega) | (simp [Conds, rng] <;> omega) | (simp only [Conds, rng, wrap_u8, wrap_u16, wrap_u32, wrap_u64] <;> omega)) ?_) | (refine MC.la true (la_load1 hs rfl (by rfl)) rfl ?_) | (refine MC.part rfl rfl (fun h => absurd h (by first | decide | omega)) (fun _ => ?_)) | (refine MC.part rfl rfl (fun _ => ?_) (fun h => absurd (by first | decide | omega) h)) | (refine MC.cond rfl (fun h => absurd h (by first | decide | omega)) (fun _ => ?_)) | (refine MC.cond rfl (fun _ => ?_) (fun h => absurd (by first | decide | omega) h)))
  rw [ba]
  refine MC.part rfl rfl (fun h2 => ?_) (fun h2 => ?_)
  · have e : unitL (a :: b :: u) = -1 := by
      unfold unitL
      split
      · rename_i heq
        injection heq with e1 e2
        rw [e1] at h2
        exact absurd rfl h2
      · rfl
    rw [e]
    repeat (first | (refine MC.run1 tab 1000 rfl rfl (by first | exact True.intro | (simp only [Conds, rng, Int.toNat_natCast, List.length_append, bytesV_length] <;> omega) | (simp [Conds, rng] <;> omega) | (simp only [Conds, rng, wrap_u8, wrap_u16, wrap_u32, wrap_u64] <;> omega)) ?_) | (refine MC.la true (la_load1 hs rfl (by rfl)) rfl ?_) | (refine MC.part rfl rfl (fun h => absurd h (by first | decide | omega)) (fun _ => ?_)) | (refine MC.part rfl rfl (fun _ => ?_) (fun h => absurd (by first | decide | omega) h)) | (refine MC.cond rfl (fun h => absurd h (by first | decide | omega)) (fun _ => ?_)) | (refine MC.cond rfl (fun _ => ?_) (fun h => absurd (by first | decide | omega) h)))
    refine MC.ret rfl ?_
    exact ⟨rfl, rfl⟩
  have h2 := u8i (k := 92) (Decidable.not_not.1 h2)
  subst h2
  repeat (first | (refine MC.run1 tab 1000 rfl rfl (by first | exact True.intro | (simp only [Conds, rng, Int.toNat_natCast, List.length_append, bytesV_length] <;> omega) | (simp [Conds, rng] <;> omega) | (simp only [Conds, rng, wrap_u8, wrap_u16, wrap_u32, wrap_u64] <;> omega)) ?_) | (refine MC.la true (la_load1 hs rfl (by rfl)) rfl ?_) | (refine MC.part rfl rfl (fun h => absurd h (by first | decide | omega)) (fun _ => ?_)) | (refine MC.part rfl rfl (fun _ => ?_) (fun h => absurd (by first | decide | omega) h)) | (refine MC.cond rfl (fun h => absurd h (by first | decide | omega)) (fun _ => ?_)) | (refine MC.cond rfl (fun _ => ?_) (fun h => absurd (by first | decide | omega) h)))
  rw [bb]
  refine MC.cond rfl (fun h3 => ?_) (fun h3 => ?_)
  · have e : unitL (92 :: b :: u) = -1 := by
      unfold unitL
      split
      · rename_i heq
        injection heq with e1 e2
        injection e2 with e3 e4
        rw [e3] at h3
        exact absurd rfl h3
      · rfl
    rw [e]
    repeat (first | (refine MC.run1 tab 1000 rfl rfl (by first | exact True.intro | (simp only [Conds, rng, Int.toNat_natCast, List.length_append, bytesV_length] <;> omega) | (simp [Conds, rng] <;> omega) | (simp only [Conds, rng, wrap_u8, wrap_u16, wrap_u32, wrap_u64] <;> omega)) ?_) | (refine MC.la true (la_load1 hs rfl (by rfl)) rfl ?_) | (refine MC.part rfl rfl (fun h => absurd h (by first | decide | omega)) (fun _ => ?_)) | (refine MC.part rfl rfl (fun _ => ?_) (fun h => absurd (by first | decide | omega) h)) | (refine MC.cond rfl (fun h => absurd h (by first | decide | omega)) (fun _ => ?_)) | (refine MC.cond rfl (fun _ => ?_) (fun h => absurd (by first | decide | omega) h)))
    refine MC.ret rfl ?_
    exact ⟨rfl, rfl⟩
  have h3 := u8i (k := 117) (Decidable.not_not.1 h3)
  subst h3
  have hu4 : 4 ≤ u.length := by simp only [List.length_cons] at h6; omega
  have e : unitL (92 :: 117 :: u) = digV (hexs u 4) := by rw [← hex4_hexs u hu4]; rfl
  rw [e]
  repeat (first | (refine MC.run1 tab 1000 rfl rfl (by first | exact True.intro | (simp only [Conds, rng, Int.toNat_natCast, List.length_append, bytesV_length] <;> omega) | (simp [Conds, rng] <;> omega) | (simp only [Conds, rng, wrap_u8, wrap_u16, wrap_u32, wrap_u64] <;> omega)) ?_) | (refine MC.la true (la_load1 hs rfl (by rfl)) rfl ?_) | (refine MC.part rfl rfl (fun h => absurd h (by first | decide | omega)) (fun _ => ?_)) | (refine MC.part rfl rfl (fun _ => ?_) (fun h => absurd (by first | decide | omega) h)) | (refine MC.cond rfl (fun h => absurd h (by first | decide | omega)) (fun _ => ?_)) | (refine MC.cond rfl (fun _ => ?_) (fun h => absurd (by first | decide | omega) h)))
  refine MC.loop (σ := Nat × Nat) (fun x => [(0, true, str (92 :: 117 :: u)), (3, true, int ((x.2 : Nat) : Int)), (4, true, int ((x.1 + 2 : Nat) : Int))])
    (fun x w' => x.1 ≤ 4 ∧ hexs u x.1 = some x.2 ∧ w' = w) (fun x => 4 - x.1) (0, 0) (by repeat (first | exact trivial | refine ⟨rfl, ?_⟩)) ⟨by omega, rfl, rfl⟩ ?_
  rintro ⟨i, r⟩ w' ⟨hi, hh, rfl⟩
  have hi : i ≤ 4 := hi
  have hh : hexs u i = some r := hh
  dsimp only []
  repeat (first | (refine MC.run1 tab 1000 rfl rfl (by first | exact True.intro | (simp only [Conds, rng, Int.toNat_natCast, List.length_append, bytesV_length] <;> omega) | (simp [Conds, rng] <;> omega) | (simp only [Conds, rng, wrap_u8, wrap_u16, wrap_u32, wrap_u64] <;> omega)) ?_) | (refine MC.la true (la_load1 hs rfl (by rfl)) rfl ?_) | (refine MC.part rfl rfl (fun h => absurd h (by first | decide | omega)) (fun _ => ?_)) | (refine MC.part rfl rfl (fun _ => ?_) (fun h => absurd (by first | decide | omega) h)) | (refine MC.cond rfl (fun h => absurd h (by first | decide | omega)) (fun _ => ?_)) | (refine MC.cond rfl (fun _ => ?_) (fun h => absurd (by first | decide | omega) h)))
  refine MC.cond rfl (fun hlt => ?_) (fun hge => ?_)
  · have hlt : i < 4 := by omega
    have hr : r ≤ 4095 := by
      have h1 := hexs_lt u i r hh
      have h2 : 16 ^ i ≤ 16 ^ 3 := Nat.pow_le_pow_right (by decide) (by omega)
      omega
    have hbt : byteAt (92 :: 117 :: u) (((i + 2 : Nat)) : Int).toNat = ((u.getD i 0).toNat : Int) := rfl
    repeat (first | (refine MC.run1 tab 1000 rfl rfl (by first | exact True.intro | (simp only [Conds, rng, Int.toNat_natCast, List.length_append, bytesV_length] <;> omega) | (simp [Conds, rng] <;> omega) | (simp only [Conds, rng, wrap_u8, wrap_u16, wrap_u32, wrap_u64] <;> omega)) ?_) | (refine MC.la true (la_load1 hs rfl (by rfl)) rfl ?_) | (refine MC.part rfl rfl (fun h => absurd h (by first | decide | omega)) (fun _ => ?_)) | (refine MC.part rfl rfl (fun _ => ?_) (fun h => absurd (by first | decide | omega) h)) | (refine MC.cond rfl (fun h => absurd h (by first | decide | omega)) (fun _ => ?_)) | (refine MC.cond rfl (fun _ => ?_) (fun h => absurd (by first | decide | omega) h)))
    rw [hbt]
    have hdg := digit_spec (u.getD i 0) hs
    cases hd : dig (u.getD i 0) with
    | none =>
      rw [hd] at hdg
      refine MC.does true (does_call rfl (hdg)) rfl ?_
      rintro _ w'' ⟨rfl, rfl⟩
      repeat (first | (refine MC.run1 tab 1000 rfl rfl (by first | exact True.intro | (simp only [Conds, rng, Int.toNat_natCast, List.length_append, bytesV_length] <;> omega) | (simp [Conds, rng] <;> omega) | (simp only [Conds, rng, wrap_u8, wrap_u16, wrap_u32, wrap_u64] <;> omega)) ?_) | (refine MC.la true (la_load1 hs rfl (by rfl)) rfl ?_) | (refine MC.part rfl rfl (fun h => absurd h (by first | decide | omega)) (fun _ => ?_)) | (refine MC.part rfl rfl (fun _ => ?_) (fun h => absurd (by first | decide | omega) h)) | (refine MC.cond rfl (fun h => absurd h (by first | decide | omega)) (fun _ => ?_)) | (refine MC.cond rfl (fun _ => ?_) (fun h => absurd (by first | decide | omega) h)))
      refine MC.ret rfl ?_
      rw [hexs_stop hlt hd]
      exact ⟨rfl, rfl⟩
    | some d =>
      rw [hd] at hdg
      have hd16 := dig_lt hd
      refine MC.does true (does_call rfl (hdg)) rfl ?_
      rintro _ w'' ⟨rfl, rfl⟩
      dsimp only [digV]
      repeat (first | (refine MC.run1 tab 1000 rfl rfl (by first | exact True.intro | (simp only [Conds, rng, Int.toNat_natCast, List.length_append, bytesV_length] <;> omega) | (simp [Conds, rng] <;> omega) | (simp only [Conds, rng, wrap_u8, wrap_u16, wrap_u32, wrap_u64] <;> omega)) ?_) | (refine MC.la true (la_load1 hs rfl (by rfl)) rfl ?_) | (refine MC.part rfl rfl (fun h => absurd h (by first | decide | omega)) (fun _ => ?_)) | (refine MC.part rfl rfl (fun _ => ?_) (fun h => absurd (by first | decide | omega) h)) | (refine MC.cond rfl (fun h => absurd h (by first | decide | omega)) (fun _ => ?_)) | (refine MC.cond rfl (fun _ => ?_) (fun h => absurd (by first | decide | omega) h)))
      refine MC.again (i + 1, r * 16 + d) ⟨rfl, ?_, ?_, trivial⟩ ⟨hlt, hexs_step hh hd, rfl⟩ (by show 4 - (i + 1) < 4 - i; omega)
      · exact congrArg (fun n => some (int n)) (by omega)
      · exact congrArg (fun n => some (int n)) (by omega)
  · obtain rfl : i = 4 := by omega
    repeat (first | (refine MC.run1 tab 1000 rfl rfl (by first | exact True.intro | (simp only [Conds, rng, Int.toNat_natCast, List.length_append, bytesV_length] <;> omega) | (simp [Conds, rng] <;> omega) | (simp only [Conds, rng, wrap_u8, wrap_u16, wrap_u32, wrap_u64] <;> omega)) ?_) | (refine MC.la true (la_load1 hs rfl (by rfl)) rfl ?_) | (refine MC.part rfl rfl (fun h => absurd h (by first | decide | omega)) (fun _ => ?_)) | (refine MC.part rfl rfl (fun _ => ?_) (fun h => absurd (by first | decide | omega) h)) | (refine MC.cond rfl (fun h => absurd h (by first | decide | omega)) (fun _ => ?_)) | (refine MC.cond rfl (fun _ => ?_) (fun h => absurd (by first | decide | omega) h)))
    refine MC.ret rfl ?_
    rw [hh]
    exact ⟨rfl, rfl⟩
end Go.Proofs.YtmloccinejhopaaDoor
