/- Journals: the law of lasts. -/
import Derived.Test.YtoigogonccjagaaDoorJad
import Derived.Test.YtoigogonccjagaaDoorJnob
import Derived.Test.YtoigogonccjagaaDoorJep
set_option linter.unusedVariables false
set_option linter.unusedSimpArgs false
namespace Go.Proofs.YtoigogonccjagaaDoor
open Go Go.Sl Go.Jn Go.ChangeShapes Go.WideShapes
attribute [local irreducible] LooksAt sumB sumF recB recsB parseR frontB clashB

/-- Where the calls have come to. -/
structure Lx where
  i : Nat
  R : List Bs
  A : List Bs
  D : Dev
  E : Dev
  Dn : List (Value × Bs)
  Nw : List (Value × Bs)
  add : List (Value × Bs)
  va : Value
structure Lx.ok (x : Lx) (F : List Assn) : Prop where
  sum : bd x.add = x.R ++ x.A
  dn : bd x.Dn = x.R
  nw : bd x.Nw = x.A
  rd : ∀ y ∈ x.add, RdS F 1 y.1 y.2.length (bytesV y.2) ∧ y.2.length ≤ 200
  sz : szB (x.R ++ x.A) ≤ 1536
  dk : Dk x.D
  ek : Dk x.E
  dl : lies x.D (recsB 2 1 x.R)
  el : lies x.E (recsB 2 1 x.R)
  fu : x.D.fuse = x.E.fuse
/-- How they end. -/
structure Ly where
  R : List Bs
  A : List Bs
  D : Dev
  E : Dev
  m : Nat
  add : List (Value × Bs)
  va : Value
  cl : Bool
  vD : Value
  vN : Value
structure Ly.ok (x : Ly) (F : List Assn) : Prop where
  sum : bd x.add = x.R ++ x.A
  rd : ∀ y ∈ x.add, RdS F 1 y.1 y.2.length (bytesV y.2) ∧ y.2.length ≤ 200
  sz : szB (x.R ++ x.A) ≤ 1536
  dk : Dk x.D
  ek : Dk x.E
  dl : lies x.D (recsB 2 1 x.R)
  el : lies x.E (recsB 2 1 x.R)
  few : x.m ≤ nWr (recsB 2 1 (x.R ++ x.A)) (szB x.R)
def Ly.put (x : Ly) (D : Dev) : Dev := gput D (recsB 2 1 (x.R ++ x.A)) (szB x.R) x.m
set_option maxHeartbeats 16000000 in
theorem lasts_walk {F : List Assn} {w : World} {vl vk : Value} {acts : List ActR} {kept : List Bool} {cut tn a : Int} (hs : Sat F w) (hE : ErrC F) (hl : RdS F 7 vl acts.length (acts.flatMap ActR.row)) (hok : ∀ y ∈ acts, y.ok F) (hk : RdS F 1 vk kept.length (boolsV kept)) (hf1 : acts.length ≤ 9223372036854775807) :
    Ret Tryd.prog 7 [vl, int cut, vk, int tn, int a] w fun v w' => v = bool true ∧ Sat F w' := by
  obtain ⟨ql, cl, rfl, hcl, _⟩ := hl.shape
  obtain ⟨qk, ck, rfl, hck, _⟩ := hk.shape
  have hwk := works_spec hs
  refine Ret.enter [(true, .slice ql acts.length cl), (true, int cut), (true, .slice qk kept.length ck), (true, int tn), (true, int a)] _ Tryd.func7 rfl Tryd.ntmps7 rfl ?_
  repeat (first | (refine MC.run1 tab 1000 rfl rfl (by first | exact True.intro | (simp only [Conds, rng, Int.toNat_natCast, List.length_append, bytesV_length] <;> omega) | (simp [Conds, rng] <;> omega) | (simp only [Conds, rng, wrap_u8, wrap_u16, wrap_u32, wrap_u64] <;> omega)) ?_) | (refine MC.la true (la_load1 hs rfl (by rfl)) rfl ?_) | (refine MC.part rfl rfl (fun h => absurd h (by first | decide | omega)) (fun _ => ?_)) | (refine MC.part rfl rfl (fun _ => ?_) (fun h => absurd (by first | decide | omega) h)) | (refine MC.cond rfl (fun h => absurd h (by first | decide | omega)) (fun _ => ?_)) | (refine MC.cond rfl (fun _ => ?_) (fun h => absurd (by first | decide | omega) h)))
  refine MC.does true (does_call rfl (hwk)) rfl ?_
  rintro _ w ⟨rfl, hs⟩
  have hbg := began_spec hs
  repeat (first | (refine MC.run1 tab 1000 rfl rfl (by first | exact True.intro | (simp only [Conds, rng, Int.toNat_natCast, List.length_append, bytesV_length] <;> omega) | (simp [Conds, rng] <;> omega) | (simp only [Conds, rng, wrap_u8, wrap_u16, wrap_u32, wrap_u64] <;> omega)) ?_) | (refine MC.la true (la_load1 hs rfl (by rfl)) rfl ?_) | (refine MC.part rfl rfl (fun h => absurd h (by first | decide | omega)) (fun _ => ?_)) | (refine MC.part rfl rfl (fun _ => ?_) (fun h => absurd (by first | decide | omega) h)) | (refine MC.cond rfl (fun h => absurd h (by first | decide | omega)) (fun _ => ?_)) | (refine MC.cond rfl (fun _ => ?_) (fun h => absurd (by first | decide | omega) h)))
  refine MC.does true (does_call rfl (hbg)) rfl ?_
  rintro _ w ⟨p, r, D, rfl, hD, hDl, hs⟩
  have hrb := rbegan_spec hs
  repeat (first | (refine MC.run1 tab 1000 rfl rfl (by first | exact True.intro | (simp only [Conds, rng, Int.toNat_natCast, List.length_append, bytesV_length] <;> omega) | (simp [Conds, rng] <;> omega) | (simp only [Conds, rng, wrap_u8, wrap_u16, wrap_u32, wrap_u64] <;> omega)) ?_) | (refine MC.la true (la_load1 hs rfl (by rfl)) rfl ?_) | (refine MC.part rfl rfl (fun h => absurd h (by first | decide | omega)) (fun _ => ?_)) | (refine MC.part rfl rfl (fun _ => ?_) (fun h => absurd (by first | decide | omega) h)) | (refine MC.cond rfl (fun h => absurd h (by first | decide | omega)) (fun _ => ?_)) | (refine MC.cond rfl (fun _ => ?_) (fun h => absurd (by first | decide | omega) h)))
  refine MC.does true (does_call rfl (hrb)) rfl ?_
  rintro _ w ⟨q, rr, E, rfl, hEk, hEl, hs⟩
  obtain ⟨N, hN, hN40⟩ : ∃ N : Nat, IntKind.u64.wrap cut % 40 = ((N : Nat) : Int) ∧ N < 40 := ⟨(IntKind.u64.wrap cut % 40).toNat, by rw [wrap_u64]; omega, by rw [wrap_u64]; omega⟩
  have hcu := cut_spec (hs.pull 2 rfl) hD.ok ((N : Nat) : Int)
  repeat (first | (refine MC.run1 tab 1000 rfl rfl (by first | exact True.intro | (simp only [Conds, rng, Int.toNat_natCast, List.length_append, bytesV_length] <;> omega) | (simp [Conds, rng] <;> omega) | (simp only [Conds, rng, wrap_u8, wrap_u16, wrap_u32, wrap_u64] <;> omega)) ?_) | (refine MC.la true (la_load1 hs rfl (by rfl)) rfl ?_) | (refine MC.part rfl rfl (fun h => absurd h (by first | decide | omega)) (fun _ => ?_)) | (refine MC.part rfl rfl (fun _ => ?_) (fun h => absurd (by first | decide | omega) h)) | (refine MC.cond rfl (fun h => absurd h (by first | decide | omega)) (fun _ => ?_)) | (refine MC.cond rfl (fun _ => ?_) (fun h => absurd (by first | decide | omega) h)))
  rw [hN]
  refine MC.does true (does_call rfl (hcu)) rfl ?_
  rintro _ w ⟨rfl, hs⟩
  rw [if_neg (by omega)]
  have hs := hs.pickF 4 [2, 1, 0, 3] rfl rfl
  have hcr := rcut_spec (n := N) hs (by omega)
  repeat (first | (refine MC.run1 tab 1000 rfl rfl (by first | exact True.intro | (simp only [Conds, rng, Int.toNat_natCast, List.length_append, bytesV_length] <;> omega) | (simp [Conds, rng] <;> omega) | (simp only [Conds, rng, wrap_u8, wrap_u16, wrap_u32, wrap_u64] <;> omega)) ?_) | (refine MC.la true (la_load1 hs rfl (by rfl)) rfl ?_) | (refine MC.part rfl rfl (fun h => absurd h (by first | decide | omega)) (fun _ => ?_)) | (refine MC.part rfl rfl (fun _ => ?_) (fun h => absurd (by first | decide | omega) h)) | (refine MC.cond rfl (fun h => absurd h (by first | decide | omega)) (fun _ => ?_)) | (refine MC.cond rfl (fun _ => ?_) (fun h => absurd (by first | decide | omega) h)))
  refine MC.does true (does_call rfl (hcr)) rfl ?_
  rintro _ w ⟨rfl, hs⟩
  have hDk := hD.dk.cut N
  have hEk2 := hEk.dk.cut N
  have hDl2 := lies_cut hDl ((N : Nat) : Int)
  have hEl2 := lies_cut hEl ((N : Nat) : Int)
  have hfu := cut_fuse D E N
  generalize D.cut ((N : Nat) : Int) = D1 at hs hDk hDl2 hfu
  generalize E.cut ((N : Nat) : Int) = E1 at hs hEk2 hEl2 hfu
  have hs := ((bods_nil (t := 5) hs).sl_nil 22 1).sl_nil 22 1
  have hs := hs.pickF 7 [4, 0, 1, 2, 3, 5, 6] rfl rfl
  have hs : Sat (rj rr q [] [] :: rdev q E1 :: dev p D1 :: jk r p 2 [] [] :: F) w := rj_shut (Dn := []) (Nw := []) hs
  have hs : Sat (dev p D1 :: jk r p 2 [] [] :: rdev q E1 :: rj rr q [] [] :: sl (.slice none 0 0) 22 1 0 [] :: F) w := (hs.sl_nil 22 1).pickF 5 [3, 4, 2, 1, 0] rfl rfl
  repeat (first | (refine MC.run1 tab 1000 rfl rfl (by first | exact True.intro | (simp only [Conds, rng, Int.toNat_natCast, List.length_append, bytesV_length] <;> omega) | (simp [Conds, rng] <;> omega) | (simp only [Conds, rng, wrap_u8, wrap_u16, wrap_u32, wrap_u64] <;> omega)) ?_) | (refine MC.la true (la_load1 hs rfl (by rfl)) rfl ?_) | (refine MC.part rfl rfl (fun h => absurd h (by first | decide | omega)) (fun _ => ?_)) | (refine MC.part rfl rfl (fun _ => ?_) (fun h => absurd (by first | decide | omega) h)) | (refine MC.cond rfl (fun h => absurd h (by first | decide | omega)) (fun _ => ?_)) | (refine MC.cond rfl (fun _ => ?_) (fun h => absurd (by first | decide | omega) h)))
  refine MC.cutAtS (σ := Ly) 2 (fun x => [(2, true, .slice qk kept.length ck), (3, true, int tn), (4, true, int a), (11, true, ptr p), (13, true, ptr rr), (15, true, x.va), (16, true, int ((x.R.length : Nat) : Int))])
    (fun x w => x.ok F ∧ Sat (rdev q (x.put x.E) :: rjb rr q 2 x.cl x.vD x.vN :: dev p (x.put x.D) :: sl x.va 22 1 x.add.length (hd x.add) :: F) w) rfl ?_ ?_
  rotate_left
  · (try dsimp only [List.drop_succ_cons, List.drop_zero, List.take_succ_cons, List.take_zero, List.cons_append, List.nil_append])
    refine MC.loop (σ := Lx) (fun x => [(0, true, .slice ql acts.length cl), (2, true, .slice qk kept.length ck), (3, true, int tn), (4, true, int a), (11, true, ptr p), (12, true, ptr r), (13, true, ptr rr), (15, true, x.va), (16, true, int ((x.R.length : Nat) : Int)), (17, true, int ((x.i : Nat) : Int))])
      (fun x w => x.i ≤ acts.length ∧ x.i ≤ 40 ∧ x.ok F ∧ Sat (dev p x.D :: jk r p 2 x.R x.A :: rdev q x.E :: rj rr q x.Dn x.Nw :: sl x.va 22 1 x.add.length (hd x.add) :: F) w) (fun x => 40 - x.i) ⟨0, [], [], D1, E1, [], [], [], .slice none 0 0⟩ (by repeat (first | exact trivial | refine ⟨rfl, ?_⟩))
      ⟨Nat.zero_le _, Nat.zero_le _, ⟨rfl, rfl, rfl, (fun y hy => by cases hy), by show szB ([] ++ []) ≤ 1536; decide, hDk, hEk2, by unfold recsB; exact hDl2, by unfold recsB; exact hEl2, hfu⟩, hs⟩ ?_
    clear hs
    rintro ⟨i, R, A, D, E, Dn, Nw, add, va⟩ w ⟨hi, hi40, hx, hs⟩
    dsimp only [] at hi hi40 hs ⊢
    have hsum : bd add = R ++ A := hx.sum
    have hdn : bd Dn = R := hx.dn
    have hnw : bd Nw = A := hx.nw
    have hrd : ∀ y ∈ add, RdS F 1 y.1 y.2.length (bytesV y.2) ∧ y.2.length ≤ 200 := hx.rd
    have hsz : szB (R ++ A) ≤ 1536 := hx.sz
    have hdk : Dk D := hx.dk
    have hek : Dk E := hx.ek
    have hdl : lies D (recsB 2 1 R) := hx.dl
    have hel : lies E (recsB 2 1 R) := hx.el
    have hfu : D.fuse = E.fuse := hx.fu
    have hal : add.length = R.length + A.length := by have := congrArg List.length hsum; simpa using this
    have hfw := szB_few (R ++ A)
    rw [List.length_append] at hfw
    obtain ⟨-, qa, ca, rfl, -⟩ := (hs.pull 4 rfl).sl_len
    have hexit : ∀ w, Sat (dev p D :: jk r p 2 R A :: rdev q E :: rj rr q Dn Nw :: sl (.slice qa add.length ca) 22 1 add.length (hd add) :: F) w → ∃ vD vN, (⟨R, A, D, E, 0, add, .slice qa add.length ca, false, vD, vN⟩ : Ly).ok F ∧ Sat (rdev q E :: rjb rr q 2 false vD vN :: dev p D :: sl (.slice qa add.length ca) 22 1 add.length (hd add) :: F) w := fun w hs => by
      obtain ⟨vD, vN, h⟩ := rj_open (hs.pull 3 rfl)
      exact ⟨vD, vN, ⟨hsum, hrd, hsz, hdk, hek, hdl, hel, Nat.zero_le _⟩, h.pickF 8 [6, 0, 4, 7] rfl rfl⟩
    rcases Nat.lt_or_ge i acts.length with hlt | hge
    rotate_left
    · obtain ⟨vD, vN, h1, h2⟩ := hexit w hs
      repeat (first | (refine MC.run1 tab 1000 rfl rfl (by first | exact True.intro | (simp only [Conds, rng, Int.toNat_natCast, List.length_append, bytesV_length] <;> omega) | (simp [Conds, rng] <;> omega) | (simp only [Conds, rng, wrap_u8, wrap_u16, wrap_u32, wrap_u64] <;> omega)) ?_) | (refine MC.la true (la_load1 hs rfl (by rfl)) rfl ?_) | (refine MC.part rfl rfl (fun h => absurd h (by first | decide | omega)) (fun _ => ?_)) | (refine MC.part rfl rfl (fun _ => ?_) (fun h => absurd (by first | decide | omega) h)) | (refine MC.cond rfl (fun h => absurd h (by first | decide | omega)) (fun _ => ?_)) | (refine MC.cond rfl (fun _ => ?_) (fun h => absurd (by first | decide | omega) h)))
      exact MC.meetS (⟨R, A, D, E, 0, add, .slice qa add.length ca, false, vD, vN⟩ : Ly) (by repeat (first | exact trivial | refine ⟨rfl, ?_⟩)) ⟨h1, h2⟩
    rcases Nat.lt_or_ge i 40 with h40 | h40
    rotate_left
    · obtain ⟨vD, vN, h1, h2⟩ := hexit w hs
      repeat (first | (refine MC.run1 tab 1000 rfl rfl (by first | exact True.intro | (simp only [Conds, rng, Int.toNat_natCast, List.length_append, bytesV_length] <;> omega) | (simp [Conds, rng] <;> omega) | (simp only [Conds, rng, wrap_u8, wrap_u16, wrap_u32, wrap_u64] <;> omega)) ?_) | (refine MC.la true (la_load1 hs rfl (by rfl)) rfl ?_) | (refine MC.part rfl rfl (fun h => absurd h (by first | decide | omega)) (fun _ => ?_)) | (refine MC.part rfl rfl (fun _ => ?_) (fun h => absurd (by first | decide | omega) h)) | (refine MC.cond rfl (fun h => absurd h (by first | decide | omega)) (fun _ => ?_)) | (refine MC.cond rfl (fun _ => ?_) (fun h => absurd (by first | decide | omega) h)))
      exact MC.meetS (⟨R, A, D, E, 0, add, .slice qa add.length ca, false, vD, vN⟩ : Ly) (by repeat (first | exact trivial | refine ⟨rfl, ?_⟩)) ⟨h1, h2⟩
    obtain ⟨bl, ol, rfl, hrl⟩ := hl.at_ (by omega)
    have hya := rows_get (f := ActR.row) (c := 7) (xs := acts) (fun _ _ => rfl) hlt
    have hyo := hok _ (List.getElem_mem hlt)
    obtain ⟨y, hy⟩ : ∃ y, acts[i] = y := ⟨_, rfl⟩
    rw [hy] at hya hyo
    obtain ⟨kd, fr, ct, k, at', qb, cb, body, qk', ck', kp⟩ := y
    have hyr : RdS F 1 (.slice qb body.length cb) body.length (bytesV body) := hyo.body
    have hyf : body.length ≤ 9223372036854775807 := hyo.few
    clear hyo hy
    have hya : ((acts.flatMap ActR.row).drop (i * 7)).take 7 = [int kd, int fr, int ct, int k, int at', .slice qb body.length cb, .slice qk' kp.length ck'] := hya
    repeat (first | (refine MC.run1 tab 1000 rfl rfl (by first | exact True.intro | (simp only [Conds, rng, Int.toNat_natCast, List.length_append, bytesV_length] <;> omega) | (simp [Conds, rng] <;> omega) | (simp only [Conds, rng, wrap_u8, wrap_u16, wrap_u32, wrap_u64] <;> omega)) ?_) | (refine MC.la true (la_load1 hs rfl (by rfl)) rfl ?_) | (refine MC.part rfl rfl (fun h => absurd h (by first | decide | omega)) (fun _ => ?_)) | (refine MC.part rfl rfl (fun _ => ?_) (fun h => absurd (by first | decide | omega) h)) | (refine MC.cond rfl (fun h => absurd h (by first | decide | omega)) (fun _ => ?_)) | (refine MC.cond rfl (fun _ => ?_) (fun h => absurd (by first | decide | omega) h)))
    refine MC.la true (la_loadV_rd hrl hs (j := ((i : Nat) : Int).toNat * 7) (vs := [int kd, int fr, int ct, int k, int at', .slice qb body.length cb, .slice qk' kp.length ck']) rfl (by rw [Int.toNat_natCast]; exact hya) rfl rfl) rfl ?_
    refine MC.does true (does_alloc hs) rfl ?_
    rintro _ w ⟨b18, rfl, hs⟩
    repeat (first | (refine MC.run1 tab 1000 rfl rfl (by first | exact True.intro | (simp only [Conds, rng, Int.toNat_natCast, List.length_append, bytesV_length] <;> omega) | (simp [Conds, rng] <;> omega) | (simp only [Conds, rng, wrap_u8, wrap_u16, wrap_u32, wrap_u64] <;> omega)) ?_) | (refine MC.la true (la_load1 hs rfl (by rfl)) rfl ?_) | (refine MC.part rfl rfl (fun h => absurd h (by first | decide | omega)) (fun _ => ?_)) | (refine MC.part rfl rfl (fun _ => ?_) (fun h => absurd (by first | decide | omega) h)) | (refine MC.cond rfl (fun h => absurd h (by first | decide | omega)) (fun _ => ?_)) | (refine MC.cond rfl (fun _ => ?_) (fun h => absurd (by first | decide | omega) h)))
    refine MC.does true (does_store (vs := [int kd, int fr, int ct, int k, int at', .slice qb body.length cb, .slice qk' kp.length ck']) hs rfl rfl rfl rfl (by first | (intro u hu; simp only [List.mem_cons, List.not_mem_nil, or_false] at hu; rcases hu with rfl | rfl | rfl | rfl | rfl | rfl | rfl | rfl <;> rfl) | (intro u hu; simp only [List.mem_cons, List.not_mem_nil, or_false] at hu; rcases hu with rfl | rfl | rfl | rfl <;> rfl) | (intro u hu; simp only [List.mem_cons, List.not_mem_nil, or_false] at hu; rcases hu with rfl | rfl <;> rfl) | (intro u hu; simp only [List.mem_cons, List.not_mem_nil, or_false] at hu; subst hu; rfl)) (by simp)) rfl ?_
    intro _ w hs
    rw [splice_all (by rfl)] at hs
    repeat (first | (refine MC.run1 tab 1000 rfl rfl (by first | exact True.intro | (simp only [Conds, rng, Int.toNat_natCast, List.length_append, bytesV_length] <;> omega) | (simp [Conds, rng] <;> omega) | (simp only [Conds, rng, wrap_u8, wrap_u16, wrap_u32, wrap_u64] <;> omega)) ?_) | (refine MC.la true (la_load1 hs rfl (by rfl)) rfl ?_) | (refine MC.part rfl rfl (fun h => absurd h (by first | decide | omega)) (fun _ => ?_)) | (refine MC.part rfl rfl (fun _ => ?_) (fun h => absurd (by first | decide | omega) h)) | (refine MC.cond rfl (fun h => absurd h (by first | decide | omega)) (fun _ => ?_)) | (refine MC.cond rfl (fun _ => ?_) (fun h => absurd (by first | decide | omega) h)))
    by_cases hkd : kd = 1
    · have hs := hs.tail.pickF 5 [2, 3, 0, 1, 4] rfl rfl
      have hrc := rcommit_spec hs hek.ok hek.len (by rw [hek.noO]; decide) (by rw [hdn, hnw]; exact hsz)
      repeat (first | (refine MC.run1 tab 1000 rfl rfl (by first | exact True.intro | (simp only [Conds, rng, Int.toNat_natCast, List.length_append, bytesV_length] <;> omega) | (simp [Conds, rng] <;> omega) | (simp only [Conds, rng, wrap_u8, wrap_u16, wrap_u32, wrap_u64] <;> omega)) ?_) | (refine MC.la true (la_load1 hs rfl (by rfl)) rfl ?_) | (refine MC.part rfl rfl (fun h => absurd h (by first | decide | omega)) (fun _ => ?_)) | (refine MC.part rfl rfl (fun _ => ?_) (fun h => absurd (by first | decide | omega) h)) | (refine MC.cond rfl (fun h => absurd h (by first | decide | omega)) (fun _ => ?_)) | (refine MC.cond rfl (fun _ => ?_) (fun h => absurd (by first | decide | omega) h)))
      refine MC.does true (does_call rfl (hrc)) rfl ?_
      intro v1 w hP
      clear hs
      unfold rcommitP at hP
      rw [hdn, hnw] at hP
      have hAN : Nw.length = A.length := by rw [← hnw, bd_length]
      have hBl : (recsB 2 1 (R ++ A)).length = szB (R ++ A) := recsB_sz 2 1 _
      have hUl : szB R ≤ (recsB 2 1 (R ++ A)).length := szB_l R A
      have hdl2 := hdl
      have hel2 := hel
      rw [← recsB_used R A] at hdl2 hel2
      have hfd := hdk.flushed hdl2 hUl (by omega)
      have hfe := hek.flushed hel2 hUl (by omega)
      have hgf : ∀ m, (gput D (recsB 2 1 (R ++ A)) (szB R) m).fuse = (gput E (recsB 2 1 (R ++ A)) (szB R) m).fuse := fun m => gput_fuse hfu _ _ m
      rcases hP with ⟨h0, hs⟩ | ⟨h0, hal1, hs⟩ | ⟨h0, m, vD, vN, hm, hal1, hf, hs⟩
      · have hA0 : A = [] := List.length_eq_zero_iff.1 (by rw [← hAN, h0]; rfl)
        subst hA0
        have hs := hs.pickF 5 [2, 3, 0, 1, 4] rfl rfl
        have hjc := jcommit2_spec hs hdk (num_of_err (errC_up hE))
        repeat (first | (refine MC.run1 tab 1000 rfl rfl (by first | exact True.intro | (simp only [Conds, rng, Int.toNat_natCast, List.length_append, bytesV_length] <;> omega) | (simp [Conds, rng] <;> omega) | (simp only [Conds, rng, wrap_u8, wrap_u16, wrap_u32, wrap_u64] <;> omega)) ?_) | (refine MC.la true (la_load1 hs rfl (by rfl)) rfl ?_) | (refine MC.part rfl rfl (fun h => absurd h (by first | decide | omega)) (fun _ => ?_)) | (refine MC.part rfl rfl (fun _ => ?_) (fun h => absurd (by first | decide | omega) h)) | (refine MC.cond rfl (fun h => absurd h (by first | decide | omega)) (fun _ => ?_)) | (refine MC.cond rfl (fun _ => ?_) (fun h => absurd (by first | decide | omega) h)))
        refine MC.does true (does_call rfl (hjc)) rfl ?_
        rintro v2 w (⟨_, rfl, hs⟩ | ⟨h, _⟩ | ⟨h, _⟩)
        rotate_left
        · exact absurd h (by decide)
        · exact absurd h (by decide)
        repeat (first | (refine MC.run1 tab 1000 rfl rfl (by first | exact True.intro | (simp only [Conds, rng, Int.toNat_natCast, List.length_append, bytesV_length] <;> omega) | (simp [Conds, rng] <;> omega) | (simp only [Conds, rng, wrap_u8, wrap_u16, wrap_u32, wrap_u64] <;> omega)) ?_) | (refine MC.la true (la_load1 hs rfl (by rfl)) rfl ?_) | (refine MC.part rfl rfl (fun h => absurd h (by first | decide | omega)) (fun _ => ?_)) | (refine MC.part rfl rfl (fun _ => ?_) (fun h => absurd (by first | decide | omega) h)) | (refine MC.cond rfl (fun h => absurd h (by first | decide | omega)) (fun _ => ?_)) | (refine MC.cond rfl (fun _ => ?_) (fun h => absurd (by first | decide | omega) h)))
        have e : add.length = R.length := by rw [hal]; rfl
        refine MC.again (⟨i + 1, R, [], D, E, Dn, Nw, add, .slice qa add.length ca⟩ : Lx) (by rw [e]; exact (by repeat (first | exact trivial | refine ⟨rfl, ?_⟩))) ⟨hlt, h40, ⟨hsum, hdn, hnw, hrd, hsz, hdk, hek, hdl, hel, hfu⟩, hs⟩ (by show 40 - (i + 1) < 40 - i; omega)
      · have hs := hs.pickF 5 [2, 3, 0, 1, 4] rfl rfl
        have hjc := jcommit2_spec hs hdk (num_of_err (errC_up hE))
        repeat (first | (refine MC.run1 tab 1000 rfl rfl (by first | exact True.intro | (simp only [Conds, rng, Int.toNat_natCast, List.length_append, bytesV_length] <;> omega) | (simp [Conds, rng] <;> omega) | (simp only [Conds, rng, wrap_u8, wrap_u16, wrap_u32, wrap_u64] <;> omega)) ?_) | (refine MC.la true (la_load1 hs rfl (by rfl)) rfl ?_) | (refine MC.part rfl rfl (fun h => absurd h (by first | decide | omega)) (fun _ => ?_)) | (refine MC.part rfl rfl (fun _ => ?_) (fun h => absurd (by first | decide | omega) h)) | (refine MC.cond rfl (fun h => absurd h (by first | decide | omega)) (fun _ => ?_)) | (refine MC.cond rfl (fun _ => ?_) (fun h => absurd (by first | decide | omega) h)))
        refine MC.does true (does_call rfl (hjc)) rfl ?_
        rintro v2 w (⟨h, _⟩ | ⟨_, hal2, rfl, hs⟩ | ⟨_, m, hm, _, hf, _⟩)
        · rw [h] at hAN; rw [hAN] at h0; exact absurd h0 (by decide)
        · repeat (first | (refine MC.run1 tab 1000 rfl rfl (by first | exact True.intro | (simp only [Conds, rng, Int.toNat_natCast, List.length_append, bytesV_length] <;> omega) | (simp [Conds, rng] <;> omega) | (simp only [Conds, rng, wrap_u8, wrap_u16, wrap_u32, wrap_u64] <;> omega)) ?_) | (refine MC.la true (la_load1 hs rfl (by rfl)) rfl ?_) | (refine MC.part rfl rfl (fun h => absurd h (by first | decide | omega)) (fun _ => ?_)) | (refine MC.part rfl rfl (fun _ => ?_) (fun h => absurd (by first | decide | omega) h)) | (refine MC.cond rfl (fun h => absurd h (by first | decide | omega)) (fun _ => ?_)) | (refine MC.cond rfl (fun _ => ?_) (fun h => absurd (by first | decide | omega) h)))
          have e : add.length = (R ++ A).length := by rw [hal, List.length_append]
          refine MC.again (⟨i + 1, R ++ A, [], _, _, Dn ++ Nw, [], add, .slice qa add.length ca⟩ : Lx) (by rw [e]; exact (by repeat (first | exact trivial | refine ⟨rfl, ?_⟩))) ⟨hlt, h40, ⟨?_, ?_, rfl, hrd, ?_, hfd.1, hfe.1, hfd.2, hfe.2, ?_⟩, hs⟩ (by show 40 - (i + 1) < 40 - i; omega)
          · show bd add = (R ++ A) ++ []
            rw [List.append_nil]; exact hsum
          · show bd (Dn ++ Nw) = R ++ A
            rw [bd_app, hdn, hnw]
          · show szB ((R ++ A) ++ []) ≤ 1536
            rw [List.append_nil]; exact hsz
          · show burnt _ = burnt _
            rw [hgf]
        · rw [hgf] at hf
          exact absurd hf (hal1 m hm)
      · have hs := hs.pickF 5 [2, 3, 0, 1, 4] rfl rfl
        have hjc := jcommit2_spec hs hdk (num_of_err (errC_up hE))
        repeat (first | (refine MC.run1 tab 1000 rfl rfl (by first | exact True.intro | (simp only [Conds, rng, Int.toNat_natCast, List.length_append, bytesV_length] <;> omega) | (simp [Conds, rng] <;> omega) | (simp only [Conds, rng, wrap_u8, wrap_u16, wrap_u32, wrap_u64] <;> omega)) ?_) | (refine MC.la true (la_load1 hs rfl (by rfl)) rfl ?_) | (refine MC.part rfl rfl (fun h => absurd h (by first | decide | omega)) (fun _ => ?_)) | (refine MC.part rfl rfl (fun _ => ?_) (fun h => absurd (by first | decide | omega) h)) | (refine MC.cond rfl (fun h => absurd h (by first | decide | omega)) (fun _ => ?_)) | (refine MC.cond rfl (fun _ => ?_) (fun h => absurd (by first | decide | omega) h)))
        refine MC.does true (does_call rfl (hjc)) rfl ?_
        rintro v2 w (⟨h, _⟩ | ⟨_, hal2, _, _⟩ | ⟨_, m2, hm2, hal2, hf2, rfl, hs⟩)
        · rw [h] at hAN; rw [hAN] at h0; exact absurd h0 (by decide)
        · rw [← hgf] at hf
          exact absurd hf (hal2 m hm)
        · obtain rfl : m = m2 := by
            rcases Nat.lt_trichotomy m m2 with h | h | h
            · exact absurd (by rw [hgf]; exact hf) (hal2 m h)
            · exact h
            · exact absurd (by rw [← hgf]; exact hf2) (hal1 m2 h)
          repeat (first | (refine MC.run1 tab 1000 rfl rfl (by first | exact True.intro | (simp only [Conds, rng, Int.toNat_natCast, List.length_append, bytesV_length] <;> omega) | (simp [Conds, rng] <;> omega) | (simp only [Conds, rng, wrap_u8, wrap_u16, wrap_u32, wrap_u64] <;> omega)) ?_) | (refine MC.la true (la_load1 hs rfl (by rfl)) rfl ?_) | (refine MC.part rfl rfl (fun h => absurd h (by first | decide | omega)) (fun _ => ?_)) | (refine MC.part rfl rfl (fun _ => ?_) (fun h => absurd (by first | decide | omega) h)) | (refine MC.cond rfl (fun h => absurd h (by first | decide | omega)) (fun _ => ?_)) | (refine MC.cond rfl (fun _ => ?_) (fun h => absurd (by first | decide | omega) h)))
          refine MC.meetS (⟨R, A, D, E, m, add, .slice qa add.length ca, true, vD, vN⟩ : Ly) (by repeat (first | exact trivial | refine ⟨rfl, ?_⟩)) ⟨⟨hsum, hrd, hsz, hdk, hek, hdl, hel, hm⟩, ?_⟩
          exact hs.pickF 4 [1, 2, 0, 3] rfl rfl
    · obtain ⟨M, hM⟩ : ∃ M, min body.length 200 = M := ⟨_, rfl⟩
      have hcy : body.length ≤ cb := by obtain ⟨_, _, e, h, _⟩ := hyr.shape; injection e with _ _ e; omega
      have hbr := hyr.subHi (b := M) (by omega)
      obtain ⟨b, hbb⟩ : ∃ b, body.take M = b := ⟨_, rfl⟩
      have hbl : b.length = M := by rw [← hbb, List.length_take]; omega
      rw [hbb] at hbr
      have hM3 : M ≤ 200 := by omega
      repeat (first | (refine MC.run1 tab 1000 rfl rfl (by first | exact True.intro | (simp only [Conds, rng, Int.toNat_natCast, List.length_append, bytesV_length] <;> omega) | (simp [Conds, rng] <;> omega) | (simp only [Conds, rng, wrap_u8, wrap_u16, wrap_u32, wrap_u64] <;> omega)) ?_) | (refine MC.la true (la_load1 hs rfl (by rfl)) rfl ?_) | (refine MC.part rfl rfl (fun h => absurd h (by first | decide | omega)) (fun _ => ?_)) | (refine MC.part rfl rfl (fun _ => ?_) (fun h => absurd (by first | decide | omega) h)) | (refine MC.cond rfl (fun h => absurd h (by first | decide | omega)) (fun _ => ?_)) | (refine MC.cond rfl (fun _ => ?_) (fun h => absurd (by first | decide | omega) h)))
      refine MC.cut1 [(0, true, .slice (some ⟨bl, ol, none⟩) acts.length cl), (2, true, .slice qk kept.length ck), (3, true, int tn), (4, true, int a), (11, true, ptr p), (12, true, ptr r), (13, true, ptr rr), (15, true, .slice qa add.length ca), (16, true, int ((R.length : Nat) : Int)), (17, true, int ((i : Nat) : Int)), (20, true, .slice qb M cb)] (fun w => Sat (dev p D :: jk r p 2 R A :: rdev q E :: rj rr q Dn Nw :: sl (.slice qa add.length ca) 22 1 add.length (hd add) :: F) w) rfl (fun w hs => ?_) ?_
      rotate_left
      · (try dsimp only [List.drop_succ_cons, List.drop_zero, List.take_succ_cons, List.take_zero, List.cons_append, List.nil_append])
        rcases Nat.lt_or_ge 200 body.length with h | h
        · have e : M = 200 := by omega
          subst e
          repeat (first | (refine MC.run1 tab 1000 rfl rfl (by first | exact True.intro | (simp only [Conds, rng, Int.toNat_natCast, List.length_append, bytesV_length] <;> omega) | (simp [Conds, rng] <;> omega) | (simp only [Conds, rng, wrap_u8, wrap_u16, wrap_u32, wrap_u64] <;> omega)) ?_) | (refine MC.la true (la_load1 hs rfl (by rfl)) rfl ?_) | (refine MC.part rfl rfl (fun h => absurd h (by first | decide | omega)) (fun _ => ?_)) | (refine MC.part rfl rfl (fun _ => ?_) (fun h => absurd (by first | decide | omega) h)) | (refine MC.cond rfl (fun h => absurd h (by first | decide | omega)) (fun _ => ?_)) | (refine MC.cond rfl (fun _ => ?_) (fun h => absurd (by first | decide | omega) h)))
          refine MC.pure (f := true) (po_slice_hi (b := 200) rfl rfl (by omega)) rfl ?_
          repeat (first | (refine MC.run1 tab 1000 rfl rfl (by first | exact True.intro | (simp only [Conds, rng, Int.toNat_natCast, List.length_append, bytesV_length] <;> omega) | (simp [Conds, rng] <;> omega) | (simp only [Conds, rng, wrap_u8, wrap_u16, wrap_u32, wrap_u64] <;> omega)) ?_) | (refine MC.la true (la_load1 hs rfl (by rfl)) rfl ?_) | (refine MC.part rfl rfl (fun h => absurd h (by first | decide | omega)) (fun _ => ?_)) | (refine MC.part rfl rfl (fun _ => ?_) (fun h => absurd (by first | decide | omega) h)) | (refine MC.cond rfl (fun h => absurd h (by first | decide | omega)) (fun _ => ?_)) | (refine MC.cond rfl (fun _ => ?_) (fun h => absurd (by first | decide | omega) h)))
          exact MC.meet (by repeat (first | exact trivial | refine ⟨rfl, ?_⟩)) hs.tail
        · have e : M = body.length := by omega
          subst e
          repeat (first | (refine MC.run1 tab 1000 rfl rfl (by first | exact True.intro | (simp only [Conds, rng, Int.toNat_natCast, List.length_append, bytesV_length] <;> omega) | (simp [Conds, rng] <;> omega) | (simp only [Conds, rng, wrap_u8, wrap_u16, wrap_u32, wrap_u64] <;> omega)) ?_) | (refine MC.la true (la_load1 hs rfl (by rfl)) rfl ?_) | (refine MC.part rfl rfl (fun h => absurd h (by first | decide | omega)) (fun _ => ?_)) | (refine MC.part rfl rfl (fun _ => ?_) (fun h => absurd (by first | decide | omega) h)) | (refine MC.cond rfl (fun h => absurd h (by first | decide | omega)) (fun _ => ?_)) | (refine MC.cond rfl (fun _ => ?_) (fun h => absurd (by first | decide | omega) h)))
          exact MC.meet (by repeat (first | exact trivial | refine ⟨rfl, ?_⟩)) hs.tail
      (try dsimp only [List.drop_succ_cons, List.drop_zero, List.take_succ_cons, List.take_zero, List.cons_append, List.nil_append])
      have hs := hs.pickF 5 [3, 0, 1, 2, 4] rfl rfl
      have hra := radd_spec (vb := .slice qb M cb) (b := b) hs (by rw [hbl]; exact RdS.up hbr) (by omega) (by rw [hdn, hnw]; exact hsz)
      rw [hdn, hnw] at hra
      repeat (first | (refine MC.run1 tab 1000 rfl rfl (by first | exact True.intro | (simp only [Conds, rng, Int.toNat_natCast, List.length_append, bytesV_length] <;> omega) | (simp [Conds, rng] <;> omega) | (simp only [Conds, rng, wrap_u8, wrap_u16, wrap_u32, wrap_u64] <;> omega)) ?_) | (refine MC.la true (la_load1 hs rfl (by rfl)) rfl ?_) | (refine MC.part rfl rfl (fun h => absurd h (by first | decide | omega)) (fun _ => ?_)) | (refine MC.part rfl rfl (fun _ => ?_) (fun h => absurd (by first | decide | omega) h)) | (refine MC.cond rfl (fun h => absurd h (by first | decide | omega)) (fun _ => ?_)) | (refine MC.cond rfl (fun _ => ?_) (fun h => absurd (by first | decide | omega) h)))
      refine MC.does true (does_call rfl (hra)) rfl ?_
      rintro _ w ⟨rfl, Nw', hnw', hs⟩
      have hs := hs.pickF 5 [2, 0, 1, 3, 4] rfl rfl
      have hja := jadd_spec (vb := .slice qb M cb) (b := b) hs (by rw [hbl]; exact RdS.up hbr) (by omega)
      obtain ⟨en, hen⟩ : ∃ en, addN (szB (R ++ A)) b = en := ⟨_, rfl⟩
      have hz := addN_zero (sz := szB (R ++ A)) (b := b)
      rw [hen] at hja hz ⊢
      by_cases hfit : szB (R ++ A) + (14 + b.length) ≤ 1536
      · obtain rfl : en = 0 := hz.2 hfit
        rw [if_pos hfit] at hja hnw'
        repeat (first | (refine MC.run1 tab 1000 rfl rfl (by first | exact True.intro | (simp only [Conds, rng, Int.toNat_natCast, List.length_append, bytesV_length] <;> omega) | (simp [Conds, rng] <;> omega) | (simp only [Conds, rng, wrap_u8, wrap_u16, wrap_u32, wrap_u64] <;> omega)) ?_) | (refine MC.la true (la_load1 hs rfl (by rfl)) rfl ?_) | (refine MC.part rfl rfl (fun h => absurd h (by first | decide | omega)) (fun _ => ?_)) | (refine MC.part rfl rfl (fun _ => ?_) (fun h => absurd (by first | decide | omega) h)) | (refine MC.cond rfl (fun h => absurd h (by first | decide | omega)) (fun _ => ?_)) | (refine MC.cond rfl (fun _ => ?_) (fun h => absurd (by first | decide | omega) h)))
        refine MC.does true (does_call rfl (hja)) rfl ?_
        rintro _ w ⟨rfl, hs⟩
        repeat (first | (refine MC.run1 tab 1000 rfl rfl (by first | exact True.intro | (simp only [Conds, rng, Int.toNat_natCast, List.length_append, bytesV_length] <;> omega) | (simp [Conds, rng] <;> omega) | (simp only [Conds, rng, wrap_u8, wrap_u16, wrap_u32, wrap_u64] <;> omega)) ?_) | (refine MC.la true (la_load1 hs rfl (by rfl)) rfl ?_) | (refine MC.part rfl rfl (fun h => absurd h (by first | decide | omega)) (fun _ => ?_)) | (refine MC.part rfl rfl (fun _ => ?_) (fun h => absurd (by first | decide | omega) h)) | (refine MC.cond rfl (fun h => absurd h (by first | decide | omega)) (fun _ => ?_)) | (refine MC.cond rfl (fun _ => ?_) (fun h => absurd (by first | decide | omega) h)))
        refine MC.does true (does_buildL hs rfl rfl rfl (by first | (intro u hu; simp only [List.mem_cons, List.not_mem_nil, or_false] at hu; rcases hu with rfl | rfl | rfl | rfl | rfl | rfl | rfl | rfl <;> rfl) | (intro u hu; simp only [List.mem_cons, List.not_mem_nil, or_false] at hu; rcases hu with rfl | rfl | rfl | rfl <;> rfl) | (intro u hu; simp only [List.mem_cons, List.not_mem_nil, or_false] at hu; rcases hu with rfl | rfl <;> rfl) | (intro u hu; simp only [List.mem_cons, List.not_mem_nil, or_false] at hu; subst hu; rfl)) rfl) rfl ?_; rintro _ w ⟨b1, rfl, hs⟩
        refine MC.does true (does_append hs rfl rfl (src_at rfl (by first | (intro u hu; simp only [List.mem_cons, List.not_mem_nil, or_false] at hu; rcases hu with rfl | rfl | rfl | rfl | rfl | rfl | rfl | rfl <;> rfl) | (intro u hu; simp only [List.mem_cons, List.not_mem_nil, or_false] at hu; rcases hu with rfl | rfl | rfl | rfl <;> rfl) | (intro u hu; simp only [List.mem_cons, List.not_mem_nil, or_false] at hu; rcases hu with rfl | rfl <;> rfl) | (intro u hu; simp only [List.mem_cons, List.not_mem_nil, or_false] at hu; subst hu; rfl))) (by omega) (by omega)) rfl ?_
        intro va w hs
        have hs := hs.tail
        repeat (first | (refine MC.run1 tab 1000 rfl rfl (by first | exact True.intro | (simp only [Conds, rng, Int.toNat_natCast, List.length_append, bytesV_length] <;> omega) | (simp [Conds, rng] <;> omega) | (simp only [Conds, rng, wrap_u8, wrap_u16, wrap_u32, wrap_u64] <;> omega)) ?_) | (refine MC.la true (la_load1 hs rfl (by rfl)) rfl ?_) | (refine MC.part rfl rfl (fun h => absurd h (by first | decide | omega)) (fun _ => ?_)) | (refine MC.part rfl rfl (fun _ => ?_) (fun h => absurd (by first | decide | omega) h)) | (refine MC.cond rfl (fun h => absurd h (by first | decide | omega)) (fun _ => ?_)) | (refine MC.cond rfl (fun _ => ?_) (fun h => absurd (by first | decide | omega) h)))
        refine MC.again (⟨i + 1, R, A ++ [b], D, E, Dn, Nw', add ++ [((.slice qb M cb : Value), b)], va⟩ : Lx) (by repeat (first | exact trivial | refine ⟨rfl, ?_⟩)) ⟨hlt, h40, ⟨?_, hdn, hnw', ?_, ?_, hdk, hek, hdl, hel, hfu⟩, ?_⟩ (by show 40 - (i + 1) < 40 - i; omega)
        · show bd (add ++ [((.slice qb M cb : Value), b)]) = R ++ (A ++ [b])
          rw [bd_app, bd_one, hsum, List.append_assoc]
        · intro y hy
          rcases List.mem_append.1 hy with h | h
          · exact hrd y h
          · have : y = ((.slice qb M cb : Value), b) := by simpa using h
            subst this
            show RdS F 1 (.slice qb M cb) b.length (bytesV b) ∧ b.length ≤ 200
            rw [hbl]; exact ⟨hbr, hM3⟩
        · show szB (R ++ (A ++ [b])) ≤ 1536
          rw [← List.append_assoc, szB_app, szB_one]; exact hfit
        · show Sat (dev p D :: jk r p 2 R (A ++ [b]) :: rdev q E :: rj rr q Dn Nw' :: sl va 22 1 (add ++ [((.slice qb M cb : Value), b)]).length (hd (add ++ [((.slice qb M cb : Value), b)])) :: F) w
          rw [hd_app, List.length_append]
          exact hs.pickF 5 [2, 0, 3, 1, 4] rfl rfl
      · rw [if_neg hfit] at hja hnw'
        have hne : ¬ en = 0 := fun h => hfit (hz.1 h)
        repeat (first | (refine MC.run1 tab 1000 rfl rfl (by first | exact True.intro | (simp only [Conds, rng, Int.toNat_natCast, List.length_append, bytesV_length] <;> omega) | (simp [Conds, rng] <;> omega) | (simp only [Conds, rng, wrap_u8, wrap_u16, wrap_u32, wrap_u64] <;> omega)) ?_) | (refine MC.la true (la_load1 hs rfl (by rfl)) rfl ?_) | (refine MC.part rfl rfl (fun h => absurd h (by first | decide | omega)) (fun _ => ?_)) | (refine MC.part rfl rfl (fun _ => ?_) (fun h => absurd (by first | decide | omega) h)) | (refine MC.cond rfl (fun h => absurd h (by first | decide | omega)) (fun _ => ?_)) | (refine MC.cond rfl (fun _ => ?_) (fun h => absurd (by first | decide | omega) h)))
        refine MC.does true (does_call rfl (hja)) rfl ?_
        rintro _ w ⟨rfl, hs⟩
        repeat (first | (refine MC.run1 tab 1000 rfl rfl (by first | exact True.intro | (simp only [Conds, rng, Int.toNat_natCast, List.length_append, bytesV_length] <;> omega) | (simp [Conds, rng] <;> omega) | (simp only [Conds, rng, wrap_u8, wrap_u16, wrap_u32, wrap_u64] <;> omega)) ?_) | (refine MC.la true (la_load1 hs rfl (by rfl)) rfl ?_) | (refine MC.part rfl rfl (fun h => absurd h (by first | decide | omega)) (fun _ => ?_)) | (refine MC.part rfl rfl (fun _ => ?_) (fun h => absurd (by first | decide | omega) h)) | (refine MC.cond rfl (fun h => absurd h (by first | decide | omega)) (fun _ => ?_)) | (refine MC.cond rfl (fun _ => ?_) (fun h => absurd (by first | decide | omega) h)))
        exact MC.again (⟨i + 1, R, A, D, E, Dn, Nw', add, .slice qa add.length ca⟩ : Lx) (by repeat (first | exact trivial | refine ⟨rfl, ?_⟩)) ⟨hlt, h40, ⟨hsum, hdn, hnw', hrd, hsz, hdk, hek, hdl, hel, hfu⟩, hs.pickF 5 [2, 0, 3, 1, 4] rfl rfl⟩ (by show 40 - (i + 1) < 40 - i; omega)
  clear hs
  rintro ⟨R, A, D, E, m, add, va, cl, vD, vN⟩ w ⟨hx, hs⟩
  (try dsimp only [List.drop_succ_cons, List.drop_zero, List.take_succ_cons, List.take_zero, List.cons_append, List.nil_append])
  dsimp only [Ly.put] at hs ⊢
  have hsum : bd add = R ++ A := hx.sum
  have hrd : ∀ y ∈ add, RdS F 1 y.1 y.2.length (bytesV y.2) ∧ y.2.length ≤ 200 := hx.rd
  have hsz : szB (R ++ A) ≤ 1536 := hx.sz
  have hdk : Dk D := hx.dk
  have hek : Dk E := hx.ek
  have hdl : lies D (recsB 2 1 R) := hx.dl
  have hel : lies E (recsB 2 1 R) := hx.el
  have hm : m ≤ nWr (recsB 2 1 (R ++ A)) (szB R) := hx.few
  have hBl : (recsB 2 1 (R ++ A)).length = szB (R ++ A) := recsB_sz 2 1 _
  have hUl : szB R ≤ (recsB 2 1 (R ++ A)).length := szB_l R A
  have hal : add.length = R.length + A.length := by have := congrArg List.length hsum; simpa using this
  have hfw := szB_few (R ++ A)
  rw [List.length_append] at hfw
  rw [← recsB_used R A] at hdl hel
  have hml : ∀ x ∈ R ++ A, x.length < 65536 := fun x hx => by have := szB_mem hx; omega
  have hn : nWr (recsB 2 1 (R ++ A)) (szB R) = ((recsB 2 1 (R ++ A)).length + 255) / 256 - szB R / 256 := rfl
  have hm6 : szB R / 256 + m ≤ 6 := by omega
  have hmix := behind_mix (kept := kept) (tn := tn) (a := a) hdk hdl hUl (by omega) hm
  have hrD := lose_run (kept := kept) (tn := tn) (a := a) hdk hdl hUl (by omega) hm
  have hrE := lose_run (kept := kept) (tn := tn) (a := a) hek hel hUl (by omega) hm
  have hDok := gput_ok (B := recsB 2 1 (R ++ A)) hdk.ok hdk.len hm6
  have hEok := gput_ok (B := recsB 2 1 (R ++ A)) hek.ok hek.len hm6
  have hDS := gput_S D (recsB 2 1 (R ++ A)) (szB R) m
  have hES := gput_S E (recsB 2 1 (R ++ A)) (szB R) m
  have hDO := gput_O D (recsB 2 1 (R ++ A)) (szB R) m
  have hEO := gput_O E (recsB 2 1 (R ++ A)) (szB R) m
  rw [hdk.noO, List.length_nil] at hDO
  rw [hek.noO, List.length_nil] at hEO
  obtain ⟨U, hU⟩ : ∃ U, szB R = U := ⟨_, rfl⟩
  have hszU : szL ((R ++ A).take R.length) ≤ U := by rw [List.take_left]; exact Nat.le_of_eq hU
  rw [hU] at hs hmix hrD hrE hDok hEok hDS hES hDO hEO
  obtain ⟨s, hss⟩ : ∃ s, behindB (recsB 2 1 (R ++ A)) U m kept tn a = s := ⟨_, rfl⟩
  rw [hss] at hmix hrD hrE
  obtain ⟨D2, hD2⟩ : ∃ D2, gput D (recsB 2 1 (R ++ A)) U m = D2 := ⟨_, rfl⟩
  obtain ⟨E2, hE2⟩ : ∃ E2, gput E (recsB 2 1 (R ++ A)) U m = E2 := ⟨_, rfl⟩
  rw [hD2] at hs hrD hDok hDS hDO
  rw [hE2] at hs hrE hEok hES hEO
  obtain ⟨-, qa, ca, rfl, -⟩ := (hs.pull 3 rfl).sl_len
  have hbh := rbehind_spec (r := rr) (tn := tn) (a := a) hs hEok (by rw [hES]; exact hek.len) (by omega) (RdS.up hk)
  rw [hrE] at hbh
  repeat (first | (refine MC.run1 tab 1000 rfl rfl (by first | exact True.intro | (simp only [Conds, rng, Int.toNat_natCast, List.length_append, bytesV_length] <;> omega) | (simp [Conds, rng] <;> omega) | (simp only [Conds, rng, wrap_u8, wrap_u16, wrap_u32, wrap_u64] <;> omega)) ?_) | (refine MC.la true (la_load1 hs rfl (by rfl)) rfl ?_) | (refine MC.part rfl rfl (fun h => absurd h (by first | decide | omega)) (fun _ => ?_)) | (refine MC.part rfl rfl (fun _ => ?_) (fun h => absurd (by first | decide | omega) h)) | (refine MC.cond rfl (fun h => absurd h (by first | decide | omega)) (fun _ => ?_)) | (refine MC.cond rfl (fun _ => ?_) (fun h => absurd (by first | decide | omega) h)))
  refine MC.does true (does_call rfl (hbh)) rfl ?_
  rintro _ w ⟨rfl, hs⟩
  have hcl := clash_spec (l := add) (s0 := s) hs (RdS.up (RdS.of_sl hs.tail.tail)) (fun x hx => ⟨RdS.up (hrd x hx).1, by have := (hrd x hx).2; omega⟩) (by omega) (by omega)
  rw [hsum] at hcl
  repeat (first | (refine MC.run1 tab 1000 rfl rfl (by first | exact True.intro | (simp only [Conds, rng, Int.toNat_natCast, List.length_append, bytesV_length] <;> omega) | (simp [Conds, rng] <;> omega) | (simp only [Conds, rng, wrap_u8, wrap_u16, wrap_u32, wrap_u64] <;> omega)) ?_) | (refine MC.la true (la_load1 hs rfl (by rfl)) rfl ?_) | (refine MC.part rfl rfl (fun h => absurd h (by first | decide | omega)) (fun _ => ?_)) | (refine MC.part rfl rfl (fun _ => ?_) (fun h => absurd (by first | decide | omega) h)) | (refine MC.cond rfl (fun h => absurd h (by first | decide | omega)) (fun _ => ?_)) | (refine MC.cond rfl (fun _ => ?_) (fun h => absurd (by first | decide | omega) h)))
  refine MC.does true (does_call rfl (hcl)) rfl ?_
  rintro _ w ⟨rfl, hs⟩
  obtain ⟨cb, hcb⟩ : ∃ cb, clashB 2 1 s (R ++ A) = cb := ⟨_, rfl⟩
  rw [hcb]
  cases cb with
  | true =>
    repeat (first | (refine MC.run1 tab 1000 rfl rfl (by first | exact True.intro | (simp only [Conds, rng, Int.toNat_natCast, List.length_append, bytesV_length] <;> omega) | (simp [Conds, rng] <;> omega) | (simp only [Conds, rng, wrap_u8, wrap_u16, wrap_u32, wrap_u64] <;> omega)) ?_) | (refine MC.la true (la_load1 hs rfl (by rfl)) rfl ?_) | (refine MC.part rfl rfl (fun h => absurd h (by first | decide | omega)) (fun _ => ?_)) | (refine MC.part rfl rfl (fun _ => ?_) (fun h => absurd (by first | decide | omega) h)) | (refine MC.cond rfl (fun h => absurd h (by first | decide | omega)) (fun _ => ?_)) | (refine MC.cond rfl (fun _ => ?_) (fun h => absurd (by first | decide | omega) h)))
    refine MC.ret rfl ?_
    exact ⟨rfl, Suf.sat hs⟩
  | false =>
  obtain ⟨k, hk1, hk2, hk3⟩ := mix_parse (by decide) (by decide) (R ++ A) 1 s U hmix.1 hml (by rw [List.length_append]; omega) hcb
  have hk4 := hk3 R.length (by rw [List.length_append]; omega) hszU
  have hp3 := mix_alien hmix.1 hml
  rw [List.length_append] at hk1
  have hs := hs.pickF 3 [1, 0, 2] rfl rfl
  have hlo := lose_spec (torn := tn) (at' := a) hs hDok (by omega) (RdS.up hk)
  have hLok := Dev.lose_ok hDok kept tn a
  have hLl : (D2.lose kept tn a).S.length = 8 := by simp only [Dev.lose, lost_length]; rw [hDS]; exact hdk.len
  repeat (first | (refine MC.run1 tab 1000 rfl rfl (by first | exact True.intro | (simp only [Conds, rng, Int.toNat_natCast, List.length_append, bytesV_length] <;> omega) | (simp [Conds, rng] <;> omega) | (simp only [Conds, rng, wrap_u8, wrap_u16, wrap_u32, wrap_u64] <;> omega)) ?_) | (refine MC.la true (la_load1 hs rfl (by rfl)) rfl ?_) | (refine MC.part rfl rfl (fun h => absurd h (by first | decide | omega)) (fun _ => ?_)) | (refine MC.part rfl rfl (fun _ => ?_) (fun h => absurd (by first | decide | omega) h)) | (refine MC.cond rfl (fun h => absurd h (by first | decide | omega)) (fun _ => ?_)) | (refine MC.cond rfl (fun _ => ?_) (fun h => absurd (by first | decide | omega) h)))
  refine MC.does true (does_call rfl (hlo)) rfl ?_
  rintro _ w ⟨q2, rfl, hs⟩
  have hLO : (D2.lose kept tn a).O = [] := rfl
  have hLf : (D2.lose kept tn a).fuse = 0 := rfl
  generalize D2.lose kept tn a = D3 at hs hLok hLl hrD hLO hLf
  have hop := open_spec' (fr := 1) (count := 6) (epoch := 2) hs hLok (by rw [hLO]; decide) (by rw [hLf]; decide) (by decide) (by rw [hLl]; decide) (by decide) (by decide)
  unfold openP at hop
  rw [hrD, hk2] at hop
  repeat (first | (refine MC.run1 tab 1000 rfl rfl (by first | exact True.intro | (simp only [Conds, rng, Int.toNat_natCast, List.length_append, bytesV_length] <;> omega) | (simp [Conds, rng] <;> omega) | (simp only [Conds, rng, wrap_u8, wrap_u16, wrap_u32, wrap_u64] <;> omega)) ?_) | (refine MC.la true (la_load1 hs rfl (by rfl)) rfl ?_) | (refine MC.part rfl rfl (fun h => absurd h (by first | decide | omega)) (fun _ => ?_)) | (refine MC.part rfl rfl (fun _ => ?_) (fun h => absurd (by first | decide | omega) h)) | (refine MC.cond rfl (fun h => absurd h (by first | decide | omega)) (fun _ => ?_)) | (refine MC.cond rfl (fun _ => ?_) (fun h => absurd (by first | decide | omega) h)))
  refine MC.does true (does_call rfl (hop)) rfl ?_
  rintro _ w ⟨r1, vX1, vR1, vA1, rec1, used1, rfl, hp1, hc1, hr1, hs⟩
  have hrD2 : (D3.redN 6).run 1 6 = s := by
    rw [← hrD]; unfold Dev.run; exact flat_congr fun i _ => Dev.redN_get _ _ _
  have hop := open_spec' (fr := 1) (count := 6) (epoch := 3) (hs.pickF 7 [2, 0, 1, 3, 4, 5, 6] rfl rfl) (Dev.redN_ok hLok 6) (by rw [Dev.redN_O, hLO]; decide) (by rw [Dev.redN_fuse, hLf]; decide) (by decide) (by rw [Dev.redN_S, hLl]; decide) (by decide) (by decide)
  unfold openP at hop
  rw [hrD2, hp3] at hop
  repeat (first | (refine MC.run1 tab 1000 rfl rfl (by first | exact True.intro | (simp only [Conds, rng, Int.toNat_natCast, List.length_append, bytesV_length] <;> omega) | (simp [Conds, rng] <;> omega) | (simp only [Conds, rng, wrap_u8, wrap_u16, wrap_u32, wrap_u64] <;> omega)) ?_) | (refine MC.la true (la_load1 hs rfl (by rfl)) rfl ?_) | (refine MC.part rfl rfl (fun h => absurd h (by first | decide | omega)) (fun _ => ?_)) | (refine MC.part rfl rfl (fun _ => ?_) (fun h => absurd (by first | decide | omega) h)) | (refine MC.cond rfl (fun h => absurd h (by first | decide | omega)) (fun _ => ?_)) | (refine MC.cond rfl (fun _ => ?_) (fun h => absurd (by first | decide | omega) h)))
  refine MC.does true (does_call rfl (hop)) rfl ?_
  rintro _ w ⟨r2, vX2, vR2, vA2, rec2, used2, rfl, hp2, hc2, hr2, hs⟩
  obtain rfl : rec2 = [] := List.map_eq_nil_iff.1 hp2
  have hrc2 := records_spec (recs := []) (r := r2) hs (RdS.up (RdS.of_sl hs.tail)) (fun x hx => absurd hx (by simp)) (by decide)
  repeat (first | (refine MC.run1 tab 1000 rfl rfl (by first | exact True.intro | (simp only [Conds, rng, Int.toNat_natCast, List.length_append, bytesV_length] <;> omega) | (simp [Conds, rng] <;> omega) | (simp only [Conds, rng, wrap_u8, wrap_u16, wrap_u32, wrap_u64] <;> omega)) ?_) | (refine MC.la true (la_load1 hs rfl (by rfl)) rfl ?_) | (refine MC.part rfl rfl (fun h => absurd h (by first | decide | omega)) (fun _ => ?_)) | (refine MC.part rfl rfl (fun _ => ?_) (fun h => absurd (by first | decide | omega) h)) | (refine MC.cond rfl (fun h => absurd h (by first | decide | omega)) (fun _ => ?_)) | (refine MC.cond rfl (fun _ => ?_) (fun h => absurd (by first | decide | omega) h)))
  refine MC.does true (does_call rfl (hrc2)) rfl ?_
  rintro vr2 w ⟨out2, hout2, hs⟩
  obtain ⟨-, qr2, cr2, rfl, -⟩ := hs.sl_len
  obtain rfl : out2 = [] := List.map_eq_nil_iff.1 hout2
  have hs := hs.tail.tail
  repeat (first | (refine MC.run1 tab 1000 rfl rfl (by first | exact True.intro | (simp only [Conds, rng, Int.toNat_natCast, List.length_append, bytesV_length] <;> omega) | (simp [Conds, rng] <;> omega) | (simp only [Conds, rng, wrap_u8, wrap_u16, wrap_u32, wrap_u64] <;> omega)) ?_) | (refine MC.la true (la_load1 hs rfl (by rfl)) rfl ?_) | (refine MC.part rfl rfl (fun h => absurd h (by first | decide | omega)) (fun _ => ?_)) | (refine MC.part rfl rfl (fun _ => ?_) (fun h => absurd (by first | decide | omega) h)) | (refine MC.cond rfl (fun h => absurd h (by first | decide | omega)) (fun _ => ?_)) | (refine MC.cond rfl (fun _ => ?_) (fun h => absurd (by first | decide | omega) h)))
  have hrc := records_spec (r := r1) hs (RdS.up (RdS.of_sl (hs.tail.tail.tail.tail.tail))) (fun x hx => ⟨RdS.up (hr1 x hx).1, (hr1 x hx).2⟩) hc1
  refine MC.does true (does_call rfl (hrc)) rfl ?_
  rintro vr w ⟨out, hout, hs⟩
  obtain ⟨-, qr, cr, rfl, -⟩ := hs.sl_len
  have hout : out.map (·.2) = (add.take k).map (·.2) := by
    have e : (add.take k).map (·.2) = (bd add).take k := by unfold bd; exact List.map_take
    rw [e, hsum, hout, hp1]
  have hol : out.length = k := by have := congrArg List.length hout; simp only [List.length_map, List.length_take] at this; omega
  have htl : (add.take k).length = k := by rw [List.length_take]; omega
  rw [hol] at hs ⊢
  have hva := RdS.of_sl (hs.tail.tail.tail.tail.tail.tail.tail.tail.tail.tail.tail)
  have hcut := RdS.takeL hva (b := k) (by omega)
  rw [Nat.mul_one] at hcut
  have e1 : hd (add.take k) = (hd add).take k := by unfold hd; exact List.map_take
  have hro := RdS.of_sl hs
  have hsame := same_spec (va := .slice qr k cr) (vb := .slice qa k ca) (la := out) (lb := add.take k) hs (by rw [hol]; exact hro) (by rw [htl, e1]; exact RdS.up hcut) (fun x hx => RdS.up (bods_rd hs.tail hx)) (fun x hx => RdS.up (hrd x (List.mem_of_mem_take hx)).1) hout (by omega)
  repeat (first | (refine MC.run1 tab 1000 rfl rfl (by first | exact True.intro | (simp only [Conds, rng, Int.toNat_natCast, List.length_append, bytesV_length] <;> omega) | (simp [Conds, rng] <;> omega) | (simp only [Conds, rng, wrap_u8, wrap_u16, wrap_u32, wrap_u64] <;> omega)) ?_) | (refine MC.la true (la_load1 hs rfl (by rfl)) rfl ?_) | (refine MC.part rfl rfl (fun h => absurd h (by first | decide | omega)) (fun _ => ?_)) | (refine MC.part rfl rfl (fun _ => ?_) (fun h => absurd (by first | decide | omega) h)) | (refine MC.cond rfl (fun h => absurd h (by first | decide | omega)) (fun _ => ?_)) | (refine MC.cond rfl (fun _ => ?_) (fun h => absurd (by first | decide | omega) h)))
  refine MC.pure (f := true) (po_slice_hi (b := k) rfl rfl (by have := (hva.shape); obtain ⟨_, _, e, h, _⟩ := this; injection e with _ _ e; omega)) rfl ?_
  repeat (first | (refine MC.run1 tab 1000 rfl rfl (by first | exact True.intro | (simp only [Conds, rng, Int.toNat_natCast, List.length_append, bytesV_length] <;> omega) | (simp [Conds, rng] <;> omega) | (simp only [Conds, rng, wrap_u8, wrap_u16, wrap_u32, wrap_u64] <;> omega)) ?_) | (refine MC.la true (la_load1 hs rfl (by rfl)) rfl ?_) | (refine MC.part rfl rfl (fun h => absurd h (by first | decide | omega)) (fun _ => ?_)) | (refine MC.part rfl rfl (fun _ => ?_) (fun h => absurd (by first | decide | omega) h)) | (refine MC.cond rfl (fun h => absurd h (by first | decide | omega)) (fun _ => ?_)) | (refine MC.cond rfl (fun _ => ?_) (fun h => absurd (by first | decide | omega) h)))
  refine MC.does true (does_call rfl (hsame)) rfl ?_
  rintro _ w ⟨rfl, hs⟩
  have hst := add_state (vb := .slice none 0 0) (r := r1) hs
  repeat (first | (refine MC.run1 tab 1000 rfl rfl (by first | exact True.intro | (simp only [Conds, rng, Int.toNat_natCast, List.length_append, bytesV_length] <;> omega) | (simp [Conds, rng] <;> omega) | (simp only [Conds, rng, wrap_u8, wrap_u16, wrap_u32, wrap_u64] <;> omega)) ?_) | (refine MC.la true (la_load1 hs rfl (by rfl)) rfl ?_) | (refine MC.part rfl rfl (fun h => absurd h (by first | decide | omega)) (fun _ => ?_)) | (refine MC.part rfl rfl (fun _ => ?_) (fun h => absurd (by first | decide | omega) h)) | (refine MC.cond rfl (fun h => absurd h (by first | decide | omega)) (fun _ => ?_)) | (refine MC.cond rfl (fun _ => ?_) (fun h => absurd (by first | decide | omega) h)))
  refine MC.does true (does_call rfl (hst)) rfl ?_
  rintro _ w ⟨rfl, rfl⟩
  repeat (first | (refine MC.run1 tab 1000 rfl rfl (by first | exact True.intro | (simp only [Conds, rng, Int.toNat_natCast, List.length_append, bytesV_length] <;> omega) | (simp [Conds, rng] <;> omega) | (simp only [Conds, rng, wrap_u8, wrap_u16, wrap_u32, wrap_u64] <;> omega)) ?_) | (refine MC.la true (la_load1 hs rfl (by rfl)) rfl ?_) | (refine MC.part rfl rfl (fun h => absurd h (by first | decide | omega)) (fun _ => ?_)) | (refine MC.part rfl rfl (fun _ => ?_) (fun h => absurd (by first | decide | omega) h)) | (refine MC.cond rfl (fun h => absurd h (by first | decide | omega)) (fun _ => ?_)) | (refine MC.cond rfl (fun _ => ?_) (fun h => absurd (by first | decide | omega) h)))
  refine MC.ret rfl ?_
  exact ⟨rfl, Suf.sat hs⟩
end Go.Proofs.YtoigogonccjagaaDoor
