/- The document's device: a loss of power. | The document's journal: Open of a new one, Reset, Began. | The document's journal: size, Used, Add. -/
import Derived.Test.YtoigogonccjagaaDoorJta
import Derived.Test.YtoigogonccjagaaDoorJgr
set_option linter.unusedVariables false
set_option linter.unusedSimpArgs false

namespace Go.Proofs.YtoigogonccjagaaDoor
open Go Go.Sl Go.Jn
attribute [local irreducible] LooksAt sumB sumF recB

theorem strV_app (a b : List Bs) : strV (a ++ b) = strV a ++ strV b := by simp [strV]
theorem boolsV_at (l : List Bool) (i : Nat) (h : i < l.length) : (boolsV l)[((i : Nat) : Int).toNat * 1]? = some (bool (l.getD i false)) := by
  rw [Int.toNat_natCast, Nat.mul_one]; simp [boolsV, h]
theorem lost_at {S : List (List UInt8)} {O : List (Nat × List UInt8)} {kept : List Bool} {tn a : Int} {i : Nat} (hi : i < O.length) :
    lost S O kept tn a (i + 1) = (lost S O kept tn a i).set O[i].1 (O[i].2.take (lostN kept tn a i) ++ ((lost S O kept tn a i).getD O[i].1 []).drop (lostN kept tn a i)) := by
  simp only [lost, List.getD_eq_getElem?_getD, List.getElem?_eq_getElem hi, Option.getD_some]
set_option maxHeartbeats 4000000 in
theorem rlose_spec {F : List Assn} {p : Nat} {D : Dev} {w : World} {vk : Value} {kept : List Bool} {tn a : Int} (hs : Sat (rdev p D :: F) w) (hD : D.ok) (hO : D.O.length ≤ 100000) (hk : RdS F 1 vk kept.length (boolsV kept)) :
    Ret Tryd.prog 50 [ptr p, vk, int tn, int a] w fun v w' => ∃ q, v = ptr q ∧ Sat (rdev q (D.lose kept tn a) :: F) w' := by
  have hpos := hD.pos
  have hfew := hD.few
  obtain ⟨vs, vo, rd, hs⟩ := rdev_open hs
  obtain ⟨-, qs, cs, rfl, -⟩ := (hs.pull 1 rfl).sl_len
  obtain ⟨-, qo, co, rfl, -⟩ := (hs.pull 2 rfl).sl_len
  obtain ⟨qk, ck, rfl, hck, _⟩ := hk.shape
  refine Ret.enter [(true, ptr p), (true, .slice qk kept.length ck), (true, int tn), (true, int a)] _ Tryd.func50 rfl Tryd.ntmps50 rfl ?_
  repeat (first | (refine MC.run1 tab 1000 rfl rfl (by first | exact True.intro | (simp only [Conds, rng, Int.toNat_natCast, List.length_append, bytesV_length] <;> omega) | (simp [Conds, rng] <;> omega) | (simp only [Conds, rng, wrap_u8, wrap_u16, wrap_u32, wrap_u64] <;> omega)) ?_) | (refine MC.la true (la_load1 hs rfl (by rfl)) rfl ?_) | (refine MC.part rfl rfl (fun h => absurd h (by first | decide | omega)) (fun _ => ?_)) | (refine MC.part rfl rfl (fun _ => ?_) (fun h => absurd (by first | decide | omega) h)) | (refine MC.cond rfl (fun h => absurd h (by first | decide | omega)) (fun _ => ?_)) | (refine MC.cond rfl (fun _ => ?_) (fun h => absurd (by first | decide | omega) h)))
  refine MC.does true (does_buildSlice0 hs) rfl ?_
  rintro _ w ⟨b9, rfl, hs⟩
  have hs := Sat.sl_mk (xs := []) (spare := []) (n := 0) (c := 0) (size := 1) hs (Nat.le_refl _) rfl rfl
  have hr1 := RdS.of_sl hs.tail.tail
  repeat (first | (refine MC.run1 tab 1000 rfl rfl (by first | exact True.intro | (simp only [Conds, rng, Int.toNat_natCast, List.length_append, bytesV_length] <;> omega) | (simp [Conds, rng] <;> omega) | (simp only [Conds, rng, wrap_u8, wrap_u16, wrap_u32, wrap_u64] <;> omega)) ?_) | (refine MC.la true (la_load1 hs rfl (by rfl)) rfl ?_) | (refine MC.part rfl rfl (fun h => absurd h (by first | decide | omega)) (fun _ => ?_)) | (refine MC.part rfl rfl (fun _ => ?_) (fun h => absurd (by first | decide | omega) h)) | (refine MC.cond rfl (fun h => absurd h (by first | decide | omega)) (fun _ => ?_)) | (refine MC.cond rfl (fun _ => ?_) (fun h => absurd (by first | decide | omega) h)))
  refine MC.does true (does_append hs rfl rfl (hr1.src (strV_one _)) (by omega) (by omega)) rfl ?_
  intro va w hs
  simp only [Nat.zero_add, List.nil_append] at hs
  rcases hs.sl_cases with ⟨_, h0, _⟩ | ⟨bx, cx, spare, rfl, hcx, _, hsp, hs⟩
  · omega
  repeat (first | (refine MC.run1 tab 1000 rfl rfl (by first | exact True.intro | (simp only [Conds, rng, Int.toNat_natCast, List.length_append, bytesV_length] <;> omega) | (simp [Conds, rng] <;> omega) | (simp only [Conds, rng, wrap_u8, wrap_u16, wrap_u32, wrap_u64] <;> omega)) ?_) | (refine MC.la true (la_load1 hs rfl (by rfl)) rfl ?_) | (refine MC.part rfl rfl (fun h => absurd h (by first | decide | omega)) (fun _ => ?_)) | (refine MC.part rfl rfl (fun _ => ?_) (fun h => absurd (by first | decide | omega) h)) | (refine MC.cond rfl (fun h => absurd h (by first | decide | omega)) (fun _ => ?_)) | (refine MC.cond rfl (fun _ => ?_) (fun h => absurd (by first | decide | omega) h)))
  refine MC.pure (f := true) (po_build (ls := [(0, [.slice (some ⟨bx, 0, none⟩) D.S.length cx]), (3, [int (-1)])]) (out := [.slice (some ⟨bx, 0, none⟩) D.S.length cx, .slice none 0 0, int 0, int (-1)]) rfl rfl ⟨⟨_, rfl, by simp⟩, ⟨_, rfl, by simp⟩, trivial⟩ rfl) rfl ?_
  refine MC.does true (does_box hs rfl rfl) rfl ?_
  rintro _ w ⟨q, rfl, hs⟩
  have hs := hs.swap
  have hr0 : RdS (sl (.slice qo D.O.length co) 113 2 D.O.length (wrV D.O) :: F) 2 (.slice qo D.O.length co) D.O.length (wrV D.O) := RdS.of_sl hs.tail.tail.tail.tail
  repeat (first | (refine MC.run1 tab 1000 rfl rfl (by first | exact True.intro | (simp only [Conds, rng, Int.toNat_natCast, List.length_append, bytesV_length] <;> omega) | (simp [Conds, rng] <;> omega) | (simp only [Conds, rng, wrap_u8, wrap_u16, wrap_u32, wrap_u64] <;> omega)) ?_) | (refine MC.la true (la_load1 hs rfl (by rfl)) rfl ?_) | (refine MC.part rfl rfl (fun h => absurd h (by first | decide | omega)) (fun _ => ?_)) | (refine MC.part rfl rfl (fun _ => ?_) (fun h => absurd (by first | decide | omega) h)) | (refine MC.cond rfl (fun h => absurd h (by first | decide | omega)) (fun _ => ?_)) | (refine MC.cond rfl (fun _ => ?_) (fun h => absurd (by first | decide | omega) h)))
  refine MC.loop (σ := Nat) (fun i => [(0, true, ptr p), (1, true, .slice qk kept.length ck), (2, true, int tn), (3, true, int a), (9, true, ptr q), (10, true, int ((i : Nat) : Int))])
    (fun i w => i ≤ D.O.length ∧ Sat (blk bx (strV (lost D.S D.O kept tn a i) ++ spare) 9 :: blk q [.slice (some ⟨bx, 0, none⟩) D.S.length cx, .slice none 0 0, int 0, int (-1)] 91 :: blk p [.slice qs D.S.length cs, .slice qo D.O.length co, int rd, int (D.fuse - 1)] 91 :: sl (.slice qs D.S.length cs) 9 1 D.S.length (strV D.S) :: sl (.slice qo D.O.length co) 113 2 D.O.length (wrV D.O) :: F) w) (fun i => D.O.length - i) 0 (by repeat (first | exact trivial | refine ⟨rfl, ?_⟩)) ⟨Nat.zero_le _, hs⟩ ?_
  rintro i w ⟨hi, hs⟩
  rcases Nat.lt_or_ge i D.O.length with hlt | hge
  · obtain ⟨hx1, hx2⟩ := hD.op _ (List.getElem_mem hlt)
    obtain ⟨bo, oo, rfl, hr⟩ := hr0.at_ (by omega)
    obtain ⟨ha, hb⟩ := wrV_at D.O i hlt
    have hS := lost_length (S := D.S) (O := D.O) (kept := kept) (torn := tn) (at' := a) i
    have hsec := lost_sec (kept := kept) (torn := tn) (at' := a) hD.sec hD.op i hi
    have hlt2 := lost_at (S := D.S) (kept := kept) (tn := tn) (a := a) hlt
    have hN := lostN_le kept tn a i
    have hNe : lostN kept tn a i = if (i : Int) = tn then (max 0 (min a 256)).toNat else if kept.getD i false then 256 else 0 := rfl
    obtain ⟨N, hNN⟩ : ∃ N, lostN kept tn a i = N := ⟨_, rfl⟩
    rw [hNN] at hlt2 hN hNe
    obtain ⟨x, hx⟩ : ∃ x, D.O[i] = x := ⟨_, rfl⟩
    rw [hx] at ha hb hx1 hx2 hlt2
    obtain ⟨T, hT⟩ : ∃ T, lost D.S D.O kept tn a i = T := ⟨_, rfl⟩
    rw [hT] at hs hS hsec hlt2
    obtain ⟨kb, hkb⟩ : ∃ kb, kept.getD i false = kb := ⟨_, rfl⟩
    rw [hkb] at hNe
    obtain ⟨L, hL⟩ : ∃ L, blk bx (strV T ++ spare) 9 :: blk q [.slice (some ⟨bx, 0, none⟩) D.S.length cx, .slice none 0 0, int 0, int (-1)] 91 :: blk p [.slice qs D.S.length cs, .slice (some ⟨bo, oo, none⟩) D.O.length co, int rd, int (D.fuse - 1)] 91 :: sl (.slice qs D.S.length cs) 9 1 D.S.length (strV D.S) :: sl (.slice (some ⟨bo, oo, none⟩) D.O.length co) 113 2 D.O.length (wrV D.O) :: F = L := ⟨_, rfl⟩
    repeat (first | (refine MC.run1 tab 1000 rfl rfl (by first | exact True.intro | (simp only [Conds, rng, Int.toNat_natCast, List.length_append, bytesV_length] <;> omega) | (simp [Conds, rng] <;> omega) | (simp only [Conds, rng, wrap_u8, wrap_u16, wrap_u32, wrap_u64] <;> omega)) ?_) | (refine MC.la true (la_load1 hs rfl (by rfl)) rfl ?_) | (refine MC.part rfl rfl (fun h => absurd h (by first | decide | omega)) (fun _ => ?_)) | (refine MC.part rfl rfl (fun _ => ?_) (fun h => absurd (by first | decide | omega) h)) | (refine MC.cond rfl (fun h => absurd h (by first | decide | omega)) (fun _ => ?_)) | (refine MC.cond rfl (fun _ => ?_) (fun h => absurd (by first | decide | omega) h)))
    refine MC.cut1 [(0, true, ptr p), (1, true, .slice qk kept.length ck), (2, true, int tn), (3, true, int a), (9, true, ptr q), (10, true, int ((i : Nat) : Int)), (11, true, int 0), (39, false, bool kb)] (fun w => Sat (blk bx (strV T ++ spare) 9 :: blk q [.slice (some ⟨bx, 0, none⟩) D.S.length cx, .slice none 0 0, int 0, int (-1)] 91 :: blk p [.slice qs D.S.length cs, .slice (some ⟨bo, oo, none⟩) D.O.length co, int rd, int (D.fuse - 1)] 91 :: sl (.slice qs D.S.length cs) 9 1 D.S.length (strV D.S) :: sl (.slice (some ⟨bo, oo, none⟩) D.O.length co) 113 2 D.O.length (wrV D.O) :: F) w) rfl (fun w hs => ?_) ?_
    rotate_left
    · by_cases hkl : i < kept.length
      · obtain ⟨bk, ok, rfl, hrk⟩ := hk.at_ (by omega)
        have hbk := boolsV_at kept i hkl
        rw [hkb] at hbk
        repeat (first | (refine MC.run1 tab 1000 rfl rfl (by first | exact True.intro | (simp only [Conds, rng, Int.toNat_natCast, List.length_append, bytesV_length] <;> omega) | (simp [Conds, rng] <;> omega) | (simp only [Conds, rng, wrap_u8, wrap_u16, wrap_u32, wrap_u64] <;> omega)) ?_) | (refine MC.la true (la_load1 hs rfl (by rfl)) rfl ?_) | (refine MC.part rfl rfl (fun h => absurd h (by first | decide | omega)) (fun _ => ?_)) | (refine MC.part rfl rfl (fun _ => ?_) (fun h => absurd (by first | decide | omega) h)) | (refine MC.cond rfl (fun h => absurd h (by first | decide | omega)) (fun _ => ?_)) | (refine MC.cond rfl (fun _ => ?_) (fun h => absurd (by first | decide | omega) h)))
        refine MC.la false (la_load1_rd hrk hs (j := ((i : Nat) : Int).toNat * 1) rfl hbk) rfl ?_
        repeat (first | (refine MC.run1 tab 1000 rfl rfl (by first | exact True.intro | (simp only [Conds, rng, Int.toNat_natCast, List.length_append, bytesV_length] <;> omega) | (simp [Conds, rng] <;> omega) | (simp only [Conds, rng, wrap_u8, wrap_u16, wrap_u32, wrap_u64] <;> omega)) ?_) | (refine MC.la true (la_load1 hs rfl (by rfl)) rfl ?_) | (refine MC.part rfl rfl (fun h => absurd h (by first | decide | omega)) (fun _ => ?_)) | (refine MC.part rfl rfl (fun _ => ?_) (fun h => absurd (by first | decide | omega) h)) | (refine MC.cond rfl (fun h => absurd h (by first | decide | omega)) (fun _ => ?_)) | (refine MC.cond rfl (fun _ => ?_) (fun h => absurd (by first | decide | omega) h)))
        exact MC.meet (by repeat (first | exact trivial | refine ⟨rfl, ?_⟩)) hs
      · obtain rfl : kb = false := by rw [← hkb, List.getD_eq_getElem?_getD, List.getElem?_eq_none (by omega)]; rfl
        repeat (first | (refine MC.run1 tab 1000 rfl rfl (by first | exact True.intro | (simp only [Conds, rng, Int.toNat_natCast, List.length_append, bytesV_length] <;> omega) | (simp [Conds, rng] <;> omega) | (simp only [Conds, rng, wrap_u8, wrap_u16, wrap_u32, wrap_u64] <;> omega)) ?_) | (refine MC.la true (la_load1 hs rfl (by rfl)) rfl ?_) | (refine MC.part rfl rfl (fun h => absurd h (by first | decide | omega)) (fun _ => ?_)) | (refine MC.part rfl rfl (fun _ => ?_) (fun h => absurd (by first | decide | omega) h)) | (refine MC.cond rfl (fun h => absurd h (by first | decide | omega)) (fun _ => ?_)) | (refine MC.cond rfl (fun _ => ?_) (fun h => absurd (by first | decide | omega) h)))
        exact MC.meet (by repeat (first | exact trivial | refine ⟨rfl, ?_⟩)) hs
    refine MC.cut1 [(0, true, ptr p), (1, true, .slice qk kept.length ck), (2, true, int tn), (3, true, int a), (9, true, ptr q), (10, true, int ((i : Nat) : Int)), (11, true, int ((if kb = true then 256 else 0 : Nat) : Int))] (fun w => Sat (blk bx (strV T ++ spare) 9 :: blk q [.slice (some ⟨bx, 0, none⟩) D.S.length cx, .slice none 0 0, int 0, int (-1)] 91 :: blk p [.slice qs D.S.length cs, .slice (some ⟨bo, oo, none⟩) D.O.length co, int rd, int (D.fuse - 1)] 91 :: sl (.slice qs D.S.length cs) 9 1 D.S.length (strV D.S) :: sl (.slice (some ⟨bo, oo, none⟩) D.O.length co) 113 2 D.O.length (wrV D.O) :: F) w) rfl (fun w hs => ?_) ?_
    rotate_left
    · cases kb
      · refine MC.condB rfl (fun h => absurd h (by decide)) (fun _ => ?_)
        repeat (first | (refine MC.run1 tab 1000 rfl rfl (by first | exact True.intro | (simp only [Conds, rng, Int.toNat_natCast, List.length_append, bytesV_length] <;> omega) | (simp [Conds, rng] <;> omega) | (simp only [Conds, rng, wrap_u8, wrap_u16, wrap_u32, wrap_u64] <;> omega)) ?_) | (refine MC.la true (la_load1 hs rfl (by rfl)) rfl ?_) | (refine MC.part rfl rfl (fun h => absurd h (by first | decide | omega)) (fun _ => ?_)) | (refine MC.part rfl rfl (fun _ => ?_) (fun h => absurd (by first | decide | omega) h)) | (refine MC.cond rfl (fun h => absurd h (by first | decide | omega)) (fun _ => ?_)) | (refine MC.cond rfl (fun _ => ?_) (fun h => absurd (by first | decide | omega) h)))
        exact MC.meet (by repeat (first | exact trivial | refine ⟨rfl, ?_⟩)) hs
      · refine MC.condB rfl (fun _ => ?_) (fun h => absurd h (by decide))
        repeat (first | (refine MC.run1 tab 1000 rfl rfl (by first | exact True.intro | (simp only [Conds, rng, Int.toNat_natCast, List.length_append, bytesV_length] <;> omega) | (simp [Conds, rng] <;> omega) | (simp only [Conds, rng, wrap_u8, wrap_u16, wrap_u32, wrap_u64] <;> omega)) ?_) | (refine MC.la true (la_load1 hs rfl (by rfl)) rfl ?_) | (refine MC.part rfl rfl (fun h => absurd h (by first | decide | omega)) (fun _ => ?_)) | (refine MC.part rfl rfl (fun _ => ?_) (fun h => absurd (by first | decide | omega) h)) | (refine MC.cond rfl (fun h => absurd h (by first | decide | omega)) (fun _ => ?_)) | (refine MC.cond rfl (fun _ => ?_) (fun h => absurd (by first | decide | omega) h)))
        exact MC.meet (by repeat (first | exact trivial | refine ⟨rfl, ?_⟩)) hs
    obtain ⟨n0, hn0⟩ : ∃ n0, (if kb = true then 256 else 0 : Nat) = n0 := ⟨_, rfl⟩
    rw [hn0] at hNe ⊢
    refine MC.run1 tab 1000 rfl rfl (by first | exact True.intro | (simp only [Conds, rng, Int.toNat_natCast, List.length_append, bytesV_length] <;> omega) | (simp [Conds, rng] <;> omega) | (simp only [Conds, rng, wrap_u8, wrap_u16, wrap_u32, wrap_u64] <;> omega)) ?_
    refine MC.cut1 [(0, true, ptr p), (1, true, .slice qk kept.length ck), (2, true, int tn), (3, true, int a), (9, true, ptr q), (10, true, int ((i : Nat) : Int)), (11, true, int ((N : Nat) : Int))] (fun w => Sat (blk bx (strV T ++ spare) 9 :: blk q [.slice (some ⟨bx, 0, none⟩) D.S.length cx, .slice none 0 0, int 0, int (-1)] 91 :: blk p [.slice qs D.S.length cs, .slice (some ⟨bo, oo, none⟩) D.O.length co, int rd, int (D.fuse - 1)] 91 :: sl (.slice qs D.S.length cs) 9 1 D.S.length (strV D.S) :: sl (.slice (some ⟨bo, oo, none⟩) D.O.length co) 113 2 D.O.length (wrV D.O) :: F) w) rfl (fun w hs => ?_) ?_
    rotate_left
    · by_cases ht : (i : Int) = tn
      · rw [if_pos ht] at hNe
        rcases Int.lt_or_le a 0 with h | h
        · obtain rfl : N = 0 := by omega
          repeat (first | (refine MC.run1 tab 1000 rfl rfl (by first | exact True.intro | (simp only [Conds, rng, Int.toNat_natCast, List.length_append, bytesV_length] <;> omega) | (simp [Conds, rng] <;> omega) | (simp only [Conds, rng, wrap_u8, wrap_u16, wrap_u32, wrap_u64] <;> omega)) ?_) | (refine MC.la true (la_load1 hs rfl (by rfl)) rfl ?_) | (refine MC.part rfl rfl (fun h => absurd h (by first | decide | omega)) (fun _ => ?_)) | (refine MC.part rfl rfl (fun _ => ?_) (fun h => absurd (by first | decide | omega) h)) | (refine MC.cond rfl (fun h => absurd h (by first | decide | omega)) (fun _ => ?_)) | (refine MC.cond rfl (fun _ => ?_) (fun h => absurd (by first | decide | omega) h)))
          exact MC.meet (by repeat (first | exact trivial | refine ⟨rfl, ?_⟩)) hs
        · rcases Int.lt_or_le 256 a with h' | h'
          · obtain rfl : N = 256 := by omega
            repeat (first | (refine MC.run1 tab 1000 rfl rfl (by first | exact True.intro | (simp only [Conds, rng, Int.toNat_natCast, List.length_append, bytesV_length] <;> omega) | (simp [Conds, rng] <;> omega) | (simp only [Conds, rng, wrap_u8, wrap_u16, wrap_u32, wrap_u64] <;> omega)) ?_) | (refine MC.la true (la_load1 hs rfl (by rfl)) rfl ?_) | (refine MC.part rfl rfl (fun h => absurd h (by first | decide | omega)) (fun _ => ?_)) | (refine MC.part rfl rfl (fun _ => ?_) (fun h => absurd (by first | decide | omega) h)) | (refine MC.cond rfl (fun h => absurd h (by first | decide | omega)) (fun _ => ?_)) | (refine MC.cond rfl (fun _ => ?_) (fun h => absurd (by first | decide | omega) h)))
            exact MC.meet (by repeat (first | exact trivial | refine ⟨rfl, ?_⟩)) hs
          · obtain rfl : a = ((N : Nat) : Int) := by omega
            repeat (first | (refine MC.run1 tab 1000 rfl rfl (by first | exact True.intro | (simp only [Conds, rng, Int.toNat_natCast, List.length_append, bytesV_length] <;> omega) | (simp [Conds, rng] <;> omega) | (simp only [Conds, rng, wrap_u8, wrap_u16, wrap_u32, wrap_u64] <;> omega)) ?_) | (refine MC.la true (la_load1 hs rfl (by rfl)) rfl ?_) | (refine MC.part rfl rfl (fun h => absurd h (by first | decide | omega)) (fun _ => ?_)) | (refine MC.part rfl rfl (fun _ => ?_) (fun h => absurd (by first | decide | omega) h)) | (refine MC.cond rfl (fun h => absurd h (by first | decide | omega)) (fun _ => ?_)) | (refine MC.cond rfl (fun _ => ?_) (fun h => absurd (by first | decide | omega) h)))
            exact MC.meet (by repeat (first | exact trivial | refine ⟨rfl, ?_⟩)) hs
      · rw [if_neg ht] at hNe
        subst hNe
        repeat (first | (refine MC.run1 tab 1000 rfl rfl (by first | exact True.intro | (simp only [Conds, rng, Int.toNat_natCast, List.length_append, bytesV_length] <;> omega) | (simp [Conds, rng] <;> omega) | (simp only [Conds, rng, wrap_u8, wrap_u16, wrap_u32, wrap_u64] <;> omega)) ?_) | (refine MC.la true (la_load1 hs rfl (by rfl)) rfl ?_) | (refine MC.part rfl rfl (fun h => absurd h (by first | decide | omega)) (fun _ => ?_)) | (refine MC.part rfl rfl (fun _ => ?_) (fun h => absurd (by first | decide | omega) h)) | (refine MC.cond rfl (fun h => absurd h (by first | decide | omega)) (fun _ => ?_)) | (refine MC.cond rfl (fun _ => ?_) (fun h => absurd (by first | decide | omega) h)))
        exact MC.meet (by repeat (first | exact trivial | refine ⟨rfl, ?_⟩)) hs
    have hbl : (strV T ++ spare)[(0 + ((x.1 : Nat) : Int).toNat * 1)]? = some (str (T.getD x.1 [])) := by
      have e : 0 + ((x.1 : Nat) : Int).toNat * 1 = x.1 := by rw [Int.toNat_natCast]; omega
      rw [e, List.getElem?_append_left (by rw [strV_length]; omega)]
      have : x.1 < T.length := by omega
      simp [strV, List.getD_eq_getElem?_getD, this]
    have hgl : (T.getD x.1 []).length = 256 := by
      have : x.1 < T.length := by omega
      rw [List.getD_eq_getElem?_getD, List.getElem?_eq_getElem this]
      exact hsec _ (List.getElem_mem this)
    repeat (first | (refine MC.run1 tab 1000 rfl rfl (by first | exact True.intro | (simp only [Conds, rng, Int.toNat_natCast, List.length_append, bytesV_length] <;> omega) | (simp [Conds, rng] <;> omega) | (simp only [Conds, rng, wrap_u8, wrap_u16, wrap_u32, wrap_u64] <;> omega)) ?_) | (refine MC.la true (la_load1 hs rfl (by rfl)) rfl ?_) | (refine MC.part rfl rfl (fun h => absurd h (by first | decide | omega)) (fun _ => ?_)) | (refine MC.part rfl rfl (fun _ => ?_) (fun h => absurd (by first | decide | omega) h)) | (refine MC.cond rfl (fun h => absurd h (by first | decide | omega)) (fun _ => ?_)) | (refine MC.cond rfl (fun _ => ?_) (fun h => absurd (by first | decide | omega) h)))
    refine MC.la true (la_loadV_rd hr hs (j := ((i : Nat) : Int).toNat * 2) rfl (vs := [int ((x.1 : Nat) : Int), str x.2]) (by
      rw [Int.toNat_natCast]
      have := rows_get (f := fun x : Nat × Bs => [int ((x.1 : Nat) : Int), str x.2]) (c := 2) (xs := D.O) (fun _ _ => rfl) hlt
      rw [hx] at this
      exact this) rfl rfl) rfl ?_
    refine MC.does true (does_alloc hs) rfl ?_
    rintro _ w ⟨b12, rfl, hs⟩
    repeat (first | (refine MC.run1 tab 1000 rfl rfl (by first | exact True.intro | (simp only [Conds, rng, Int.toNat_natCast, List.length_append, bytesV_length] <;> omega) | (simp [Conds, rng] <;> omega) | (simp only [Conds, rng, wrap_u8, wrap_u16, wrap_u32, wrap_u64] <;> omega)) ?_) | (refine MC.la true (la_load1 hs rfl (by rfl)) rfl ?_) | (refine MC.part rfl rfl (fun h => absurd h (by first | decide | omega)) (fun _ => ?_)) | (refine MC.part rfl rfl (fun _ => ?_) (fun h => absurd (by first | decide | omega) h)) | (refine MC.cond rfl (fun h => absurd h (by first | decide | omega)) (fun _ => ?_)) | (refine MC.cond rfl (fun _ => ?_) (fun h => absurd (by first | decide | omega) h)))
    refine MC.does true (does_store (vs := [int ((x.1 : Nat) : Int), str x.2]) hs rfl rfl rfl rfl (by first | (intro u hu; simp only [List.mem_cons, List.not_mem_nil, or_false] at hu; rcases hu with rfl | rfl | rfl | rfl | rfl | rfl | rfl | rfl <;> rfl) | (intro u hu; simp only [List.mem_cons, List.not_mem_nil, or_false] at hu; rcases hu with rfl | rfl | rfl | rfl <;> rfl) | (intro u hu; simp only [List.mem_cons, List.not_mem_nil, or_false] at hu; rcases hu with rfl | rfl <;> rfl) | (intro u hu; simp only [List.mem_cons, List.not_mem_nil, or_false] at hu; subst hu; rfl)) (by simp)) rfl ?_
    intro _ w hs
    rw [splice_all (by rfl)] at hs
    repeat (first | (refine MC.run1 tab 1000 rfl rfl (by first | exact True.intro | (simp only [Conds, rng, Int.toNat_natCast, List.length_append, bytesV_length] <;> omega) | (simp [Conds, rng] <;> omega) | (simp only [Conds, rng, wrap_u8, wrap_u16, wrap_u32, wrap_u64] <;> omega)) ?_) | (refine MC.la true (la_load1 hs rfl (by rfl)) rfl ?_) | (refine MC.part rfl rfl (fun h => absurd h (by first | decide | omega)) (fun _ => ?_)) | (refine MC.part rfl rfl (fun _ => ?_) (fun h => absurd (by first | decide | omega) h)) | (refine MC.cond rfl (fun h => absurd h (by first | decide | omega)) (fun _ => ?_)) | (refine MC.cond rfl (fun _ => ?_) (fun h => absurd (by first | decide | omega) h)))
    refine MC.draw hs [0,1,2,3,4,5,6,7,8,9,10,11,12,13,14,15,16,17,18,19,20,21,22] (by rfl) ?_; intro w hs
    repeat (first | (refine MC.run1 tab 1000 rfl rfl (by first | exact True.intro | (simp only [Conds, rng, Int.toNat_natCast, List.length_append, bytesV_length] <;> omega) | (simp [Conds, rng] <;> omega) | (simp only [Conds, rng, wrap_u8, wrap_u16, wrap_u32, wrap_u64] <;> omega)) ?_) | (refine MC.laD true (la_load1 hs rfl (by rfl)) rfl ?_) | (refine MC.part rfl rfl (fun h => absurd h (by first | decide | omega)) (fun _ => ?_)) | (refine MC.part rfl rfl (fun _ => ?_) (fun h => absurd (by first | decide | omega) h)) | (refine MC.cond rfl (fun h => absurd h (by first | decide | omega)) (fun _ => ?_)) | (refine MC.cond rfl (fun _ => ?_) (fun h => absurd (by first | decide | omega) h)))
    have l1 : (x.2.take N).length ≤ 256 := by rw [List.length_take]; omega
    have l2 : ((T.getD x.1 []).drop N).length ≤ 256 := by rw [List.length_drop]; omega
    refine MC.laD true (la_load1 hs rfl hbl) rfl ?_
    repeat (first | (refine MC.run1 tab 1000 rfl rfl (by first | exact True.intro | (simp only [Conds, rng, Int.toNat_natCast, List.length_append, bytesV_length] <;> omega) | (simp [Conds, rng] <;> omega) | (simp only [Conds, rng, wrap_u8, wrap_u16, wrap_u32, wrap_u64] <;> omega)) ?_) | (refine MC.laD true (la_load1 hs rfl (by rfl)) rfl ?_) | (refine MC.part rfl rfl (fun h => absurd h (by first | decide | omega)) (fun _ => ?_)) | (refine MC.part rfl rfl (fun _ => ?_) (fun h => absurd (by first | decide | omega) h)) | (refine MC.cond rfl (fun h => absurd h (by first | decide | omega)) (fun _ => ?_)) | (refine MC.cond rfl (fun _ => ?_) (fun h => absurd (by first | decide | omega) h)))
    refine MC.doesD true (does_store1 hs rfl rfl rfl (by first | decide | (simp; done) | (simp; omega))) rfl rfl rfl rfl ?_; intro _ w hs
    have ek : (0 + ((x.1 : Nat) : Int).toNat * 1) = x.1 := by rw [Int.toNat_natCast]; omega
    have eN : ((N : Nat) : Int).toNat = N := Int.toNat_natCast N
    rw [ek, eN, strV_set _ _ _ _ (by omega), ← hlt2] at hs
    repeat (first | (refine MC.run1 tab 1000 rfl rfl (by first | exact True.intro | (simp only [Conds, rng, Int.toNat_natCast, List.length_append, bytesV_length] <;> omega) | (simp [Conds, rng] <;> omega) | (simp only [Conds, rng, wrap_u8, wrap_u16, wrap_u32, wrap_u64] <;> omega)) ?_) | (refine MC.laD true (la_load1 hs rfl (by rfl)) rfl ?_) | (refine MC.part rfl rfl (fun h => absurd h (by first | decide | omega)) (fun _ => ?_)) | (refine MC.part rfl rfl (fun _ => ?_) (fun h => absurd (by first | decide | omega) h)) | (refine MC.cond rfl (fun h => absurd h (by first | decide | omega)) (fun _ => ?_)) | (refine MC.cond rfl (fun _ => ?_) (fun h => absurd (by first | decide | omega) h)))
    repeat (first | (refine MC.run1 tab 1000 rfl rfl (by first | exact True.intro | (simp only [Conds, rng, Int.toNat_natCast, List.length_append, bytesV_length] <;> omega) | (simp [Conds, rng] <;> omega) | (simp only [Conds, rng, wrap_u8, wrap_u16, wrap_u32, wrap_u64] <;> omega)) ?_) | (refine MC.la true (la_load1 hs rfl (by rfl)) rfl ?_) | (refine MC.part rfl rfl (fun h => absurd h (by first | decide | omega)) (fun _ => ?_)) | (refine MC.part rfl rfl (fun _ => ?_) (fun h => absurd (by first | decide | omega) h)) | (refine MC.cond rfl (fun h => absurd h (by first | decide | omega)) (fun _ => ?_)) | (refine MC.cond rfl (fun _ => ?_) (fun h => absurd (by first | decide | omega) h)))
    exact MC.again (i + 1) (by repeat (first | exact trivial | refine ⟨rfl, ?_⟩)) ⟨hlt, hs.pickF 6 [1, 2, 3, 4, 5] rfl rfl⟩ (by omega)
  · obtain rfl : i = D.O.length := by omega
    repeat (first | (refine MC.run1 tab 1000 rfl rfl (by first | exact True.intro | (simp only [Conds, rng, Int.toNat_natCast, List.length_append, bytesV_length] <;> omega) | (simp [Conds, rng] <;> omega) | (simp only [Conds, rng, wrap_u8, wrap_u16, wrap_u32, wrap_u64] <;> omega)) ?_) | (refine MC.la true (la_load1 hs rfl (by rfl)) rfl ?_) | (refine MC.part rfl rfl (fun h => absurd h (by first | decide | omega)) (fun _ => ?_)) | (refine MC.part rfl rfl (fun _ => ?_) (fun h => absurd (by first | decide | omega) h)) | (refine MC.cond rfl (fun h => absurd h (by first | decide | omega)) (fun _ => ?_)) | (refine MC.cond rfl (fun _ => ?_) (fun h => absurd (by first | decide | omega) h)))
    refine MC.ret rfl ?_
    refine ⟨q, rfl, rdev_shut (D := D.lose kept tn a) (vs := .slice (some ⟨bx, 0, none⟩) D.S.length cx) (vo := .slice none 0 0) (rd := 0) ?_⟩
    have hll : (D.lose kept tn a).S.length = D.S.length := lost_length _
    have hsl : Sat (sl (.slice (some ⟨bx, 0, none⟩) D.S.length cx) 9 1 D.S.length (strV (D.lose kept tn a).S) :: blk q [.slice (some ⟨bx, 0, none⟩) D.S.length cx, .slice none 0 0, int 0, int (-1)] 91 :: F) w :=
      Sat.sl_mk (xs := strV (D.lose kept tn a).S) (hs.pickF 5 [0, 1] rfl rfl) hcx (by rw [strV_length, hll, Nat.mul_one]) (by rw [strV_length] at hsp ⊢; rw [hll]; exact hsp)
    rw [← hll] at hsl
    have := ((hsl.sl_nil 113 2).pickF 3 [2, 1, 0] rfl rfl)
    rw [hll] at this ⊢
    exact this
end Go.Proofs.YtoigogonccjagaaDoor

namespace Go.Proofs.YtoigogonccjagaaDoor
open Go Go.Sl Go.Jn
attribute [local irreducible] LooksAt sumB sumF recB

abbrev rjb (r p : Nat) (e : Int) (cl : Bool) (vD vN : Value) : Assn := blk r [ptr p, int 1, int 6, int e, bool cl, vD, vN, int 0] 65
theorem stands_zeros : ∃ ok, standsB (many 1536 0) = (0, 0, [], ok) := by
  have h : un (many 2 0) = 0 := un_zeros 2
  have h4 : un (many 4 0) = 0 := un_zeros 4
  unfold standsB
  simp only [many_length, many_take, many_drop]
  rw [show min 2 1536 = 2 from rfl, h, show min 4 (1536 - 2) = 4 from rfl, show min 4 (1536 - 6) = 4 from rfl, h4, if_neg (by omega)]
  exact ⟨_, rfl⟩
theorem run_new : (Dev.new 8).run 1 6 = many 1536 0 := by
  have := lies_run Dok.new8 lies_new8 (by decide)
  simpa using this
theorem ropen_spec {F : List Assn} {p : Nat} {w : World} (hs : Sat (rdev p (Dev.new 8) :: F) w) :
    Ret Tryd.prog 41 [ptr p, int ((1 : Nat) : Int), int ((6 : Nat) : Int), int ((1 : Nat) : Int)] w fun v w' => ∃ r, v = .tuple #[ptr r, int 0] ∧ Sat (rjb r p 1 true (.slice none 0 0) (.slice none 0 0) :: rdev p (Dev.new 8) :: F) w' := by
  have hD := Dok.new8
  have hrg := rregion_spec (fr := 1) (n := 6) hs hD.ok (by decide) (by rw [hD.len]; decide)
  have hst := rstretch_spec (fr := 1) (n := 6) hs hD.ok hD.noO (by rw [hD.fuse]; decide) (by rw [hD.len]; decide)
  rw [run_new] at hst
  obtain ⟨ok, hok⟩ := stands_zeros
  have hzl : (many 1536 0).length ≤ 1000000 := by rw [many_length]; decide
  obtain ⟨Z, hZ⟩ : ∃ Z, many 1536 0 = Z := ⟨_, rfl⟩
  rw [hZ] at hst hok hzl
  obtain ⟨D, hDD⟩ : ∃ D, Dev.new 8 = D := ⟨_, rfl⟩
  rw [hDD] at hs hst ⊢
  refine Ret.enter [(true, ptr p), (true, int ((1 : Nat) : Int)), (true, int ((6 : Nat) : Int)), (true, int ((1 : Nat) : Int))] _ Tryd.func41 rfl Tryd.ntmps41 rfl ?_
  repeat (first | (refine MC.run1 tab 1000 rfl rfl (by first | exact True.intro | (simp only [Conds, rng, Int.toNat_natCast, List.length_append, bytesV_length] <;> omega) | (simp [Conds, rng] <;> omega) | (simp only [Conds, rng, wrap_u8, wrap_u16, wrap_u32, wrap_u64] <;> omega)) ?_) | (refine MC.la true (la_load1 hs rfl (by rfl)) rfl ?_) | (refine MC.part rfl rfl (fun h => absurd h (by first | decide | omega)) (fun _ => ?_)) | (refine MC.part rfl rfl (fun _ => ?_) (fun h => absurd (by first | decide | omega) h)) | (refine MC.cond rfl (fun h => absurd h (by first | decide | omega)) (fun _ => ?_)) | (refine MC.cond rfl (fun _ => ?_) (fun h => absurd (by first | decide | omega) h)))
  refine MC.does true (does_call rfl (hrg)) rfl ?_
  rintro _ w ⟨rfl, rfl⟩
  repeat (first | (refine MC.run1 tab 1000 rfl rfl (by first | exact True.intro | (simp only [Conds, rng, Int.toNat_natCast, List.length_append, bytesV_length] <;> omega) | (simp [Conds, rng] <;> omega) | (simp only [Conds, rng, wrap_u8, wrap_u16, wrap_u32, wrap_u64] <;> omega)) ?_) | (refine MC.la true (la_load1 hs rfl (by rfl)) rfl ?_) | (refine MC.part rfl rfl (fun h => absurd h (by first | decide | omega)) (fun _ => ?_)) | (refine MC.part rfl rfl (fun _ => ?_) (fun h => absurd (by first | decide | omega) h)) | (refine MC.cond rfl (fun h => absurd h (by first | decide | omega)) (fun _ => ?_)) | (refine MC.cond rfl (fun _ => ?_) (fun h => absurd (by first | decide | omega) h)))
  refine MC.does true (does_call rfl (hst)) rfl ?_
  rintro _ w ⟨rfl, hs⟩
  repeat (first | (refine MC.run1 tab 1000 rfl rfl (by first | exact True.intro | (simp only [Conds, rng, Int.toNat_natCast, List.length_append, bytesV_length] <;> omega) | (simp [Conds, rng] <;> omega) | (simp only [Conds, rng, wrap_u8, wrap_u16, wrap_u32, wrap_u64] <;> omega)) ?_) | (refine MC.la true (la_load1 hs rfl (by rfl)) rfl ?_) | (refine MC.part rfl rfl (fun h => absurd h (by first | decide | omega)) (fun _ => ?_)) | (refine MC.part rfl rfl (fun _ => ?_) (fun h => absurd (by first | decide | omega) h)) | (refine MC.cond rfl (fun h => absurd h (by first | decide | omega)) (fun _ => ?_)) | (refine MC.cond rfl (fun _ => ?_) (fun h => absurd (by first | decide | omega) h)))
  refine MC.pure (f := true) (po_build (ls := [(0, [ptr p]), (1, [int 1]), (2, [int 6]), (3, [int 1]), (4, [bool true])]) (out := [ptr p, int 1, int 6, int 1, bool true, .slice none 0 0, .slice none 0 0, int 0]) rfl rfl ⟨⟨_, rfl, by simp⟩, ⟨_, rfl, by simp⟩, ⟨_, rfl, by simp⟩, ⟨_, rfl, by simp⟩, ⟨_, rfl, by simp⟩, trivial⟩ rfl) rfl ?_
  refine MC.does true (does_box hs rfl rfl) rfl ?_; rintro _ w ⟨r, rfl, hs⟩
  have hsd := stands_spec (s := Z) hs hzl
  rw [hok] at hsd
  repeat (first | (refine MC.run1 tab 1000 rfl rfl (by first | exact True.intro | (simp only [Conds, rng, Int.toNat_natCast, List.length_append, bytesV_length] <;> omega) | (simp [Conds, rng] <;> omega) | (simp only [Conds, rng, wrap_u8, wrap_u16, wrap_u32, wrap_u64] <;> omega)) ?_) | (refine MC.la true (la_load1 hs rfl (by rfl)) rfl ?_) | (refine MC.part rfl rfl (fun h => absurd h (by first | decide | omega)) (fun _ => ?_)) | (refine MC.part rfl rfl (fun _ => ?_) (fun h => absurd (by first | decide | omega) h)) | (refine MC.cond rfl (fun h => absurd h (by first | decide | omega)) (fun _ => ?_)) | (refine MC.cond rfl (fun _ => ?_) (fun h => absurd (by first | decide | omega) h)))
  refine MC.does true (does_call rfl (hsd)) rfl ?_
  rintro _ w ⟨vb, rfl, hs⟩
  dsimp only []
  cases ok
  · repeat (first | (refine MC.run1 tab 1000 rfl rfl (by first | exact True.intro | (simp only [Conds, rng, Int.toNat_natCast, List.length_append, bytesV_length] <;> omega) | (simp [Conds, rng] <;> omega) | (simp only [Conds, rng, wrap_u8, wrap_u16, wrap_u32, wrap_u64] <;> omega)) ?_) | (refine MC.la true (la_load1 hs rfl (by rfl)) rfl ?_) | (refine MC.part rfl rfl (fun h => absurd h (by first | decide | omega)) (fun _ => ?_)) | (refine MC.part rfl rfl (fun _ => ?_) (fun h => absurd (by first | decide | omega) h)) | (refine MC.cond rfl (fun h => absurd h (by first | decide | omega)) (fun _ => ?_)) | (refine MC.cond rfl (fun _ => ?_) (fun h => absurd (by first | decide | omega) h)))
    refine MC.loop (σ := Unit) (fun _ => [(0, true, ptr p), (3, true, int 1), (10, true, str Z), (12, true, ptr r)]) (fun _ w => Sat (rjb r p 1 true (.slice none 0 0) (.slice none 0 0) :: rdev p D :: F) w) (fun _ => 0) () (by repeat (first | exact trivial | refine ⟨rfl, ?_⟩)) hs ?_
    rintro _ w hs
    have hsd := stands_spec (s := Z) hs hzl
    rw [hok] at hsd
    repeat (first | (refine MC.run1 tab 1000 rfl rfl (by first | exact True.intro | (simp only [Conds, rng, Int.toNat_natCast, List.length_append, bytesV_length] <;> omega) | (simp [Conds, rng] <;> omega) | (simp only [Conds, rng, wrap_u8, wrap_u16, wrap_u32, wrap_u64] <;> omega)) ?_) | (refine MC.la true (la_load1 hs rfl (by rfl)) rfl ?_) | (refine MC.part rfl rfl (fun h => absurd h (by first | decide | omega)) (fun _ => ?_)) | (refine MC.part rfl rfl (fun _ => ?_) (fun h => absurd (by first | decide | omega) h)) | (refine MC.cond rfl (fun h => absurd h (by first | decide | omega)) (fun _ => ?_)) | (refine MC.cond rfl (fun _ => ?_) (fun h => absurd (by first | decide | omega) h)))
    refine MC.does true (does_call rfl (hsd)) rfl ?_
    rintro _ w ⟨vb, rfl, hs⟩
    dsimp only []
    repeat (first | (refine MC.run1 tab 1000 rfl rfl (by first | exact True.intro | (simp only [Conds, rng, Int.toNat_natCast, List.length_append, bytesV_length] <;> omega) | (simp [Conds, rng] <;> omega) | (simp only [Conds, rng, wrap_u8, wrap_u16, wrap_u32, wrap_u64] <;> omega)) ?_) | (refine MC.la true (la_load1 hs rfl (by rfl)) rfl ?_) | (refine MC.part rfl rfl (fun h => absurd h (by first | decide | omega)) (fun _ => ?_)) | (refine MC.part rfl rfl (fun _ => ?_) (fun h => absurd (by first | decide | omega) h)) | (refine MC.cond rfl (fun h => absurd h (by first | decide | omega)) (fun _ => ?_)) | (refine MC.cond rfl (fun _ => ?_) (fun h => absurd (by first | decide | omega) h)))
    refine MC.ret rfl ?_
    exact ⟨r, rfl, hs⟩
  · repeat (first | (refine MC.run1 tab 1000 rfl rfl (by first | exact True.intro | (simp only [Conds, rng, Int.toNat_natCast, List.length_append, bytesV_length] <;> omega) | (simp [Conds, rng] <;> omega) | (simp only [Conds, rng, wrap_u8, wrap_u16, wrap_u32, wrap_u64] <;> omega)) ?_) | (refine MC.la true (la_load1 hs rfl (by rfl)) rfl ?_) | (refine MC.part rfl rfl (fun h => absurd h (by first | decide | omega)) (fun _ => ?_)) | (refine MC.part rfl rfl (fun _ => ?_) (fun h => absurd (by first | decide | omega) h)) | (refine MC.cond rfl (fun h => absurd h (by first | decide | omega)) (fun _ => ?_)) | (refine MC.cond rfl (fun _ => ?_) (fun h => absurd (by first | decide | omega) h)))
    refine MC.loop (σ := Unit) (fun _ => [(0, true, ptr p), (3, true, int 1), (10, true, str Z), (12, true, ptr r)]) (fun _ w => Sat (rjb r p 1 true (.slice none 0 0) (.slice none 0 0) :: rdev p D :: F) w) (fun _ => 0) () (by repeat (first | exact trivial | refine ⟨rfl, ?_⟩)) hs ?_
    rintro _ w hs
    have hsd := stands_spec (s := Z) hs hzl
    rw [hok] at hsd
    repeat (first | (refine MC.run1 tab 1000 rfl rfl (by first | exact True.intro | (simp only [Conds, rng, Int.toNat_natCast, List.length_append, bytesV_length] <;> omega) | (simp [Conds, rng] <;> omega) | (simp only [Conds, rng, wrap_u8, wrap_u16, wrap_u32, wrap_u64] <;> omega)) ?_) | (refine MC.la true (la_load1 hs rfl (by rfl)) rfl ?_) | (refine MC.part rfl rfl (fun h => absurd h (by first | decide | omega)) (fun _ => ?_)) | (refine MC.part rfl rfl (fun _ => ?_) (fun h => absurd (by first | decide | omega) h)) | (refine MC.cond rfl (fun h => absurd h (by first | decide | omega)) (fun _ => ?_)) | (refine MC.cond rfl (fun _ => ?_) (fun h => absurd (by first | decide | omega) h)))
    refine MC.does true (does_call rfl (hsd)) rfl ?_
    rintro _ w ⟨vb, rfl, hs⟩
    dsimp only []
    repeat (first | (refine MC.run1 tab 1000 rfl rfl (by first | exact True.intro | (simp only [Conds, rng, Int.toNat_natCast, List.length_append, bytesV_length] <;> omega) | (simp [Conds, rng] <;> omega) | (simp only [Conds, rng, wrap_u8, wrap_u16, wrap_u32, wrap_u64] <;> omega)) ?_) | (refine MC.la true (la_load1 hs rfl (by rfl)) rfl ?_) | (refine MC.part rfl rfl (fun h => absurd h (by first | decide | omega)) (fun _ => ?_)) | (refine MC.part rfl rfl (fun _ => ?_) (fun h => absurd (by first | decide | omega) h)) | (refine MC.cond rfl (fun h => absurd h (by first | decide | omega)) (fun _ => ?_)) | (refine MC.cond rfl (fun _ => ?_) (fun h => absurd (by first | decide | omega) h)))
    refine MC.ret rfl ?_
    exact ⟨r, rfl, hs⟩
set_option maxHeartbeats 2000000 in
theorem rreset_spec {F : List Assn} {p r : Nat} {D : Dev} {w : World} (hs : Sat (rjb r p 1 true (.slice none 0 0) (.slice none 0 0) :: rdev p D :: F) w) (hD : Dok D) :
    Ret Tryd.prog 42 [ptr r, int ((2 : Nat) : Int)] w fun v w' => v = int 0 ∧ Sat (rjb r p 2 false (.slice none 0 0) (.slice none 0 0) :: rdev p (D.wrs (fun _ => many 256 0) 1 6).sync :: F) w' := by
  refine Ret.enter [(true, ptr r), (true, int ((2 : Nat) : Int))] _ Tryd.func42 rfl Tryd.ntmps42 rfl ?_
  repeat (first | (refine MC.run1 tab 1000 rfl rfl (by first | exact True.intro | (simp only [Conds, rng, Int.toNat_natCast, List.length_append, bytesV_length] <;> omega) | (simp [Conds, rng] <;> omega) | (simp only [Conds, rng, wrap_u8, wrap_u16, wrap_u32, wrap_u64] <;> omega)) ?_) | (refine MC.la true (la_load1 hs rfl (by rfl)) rfl ?_) | (refine MC.part rfl rfl (fun h => absurd h (by first | decide | omega)) (fun _ => ?_)) | (refine MC.part rfl rfl (fun _ => ?_) (fun h => absurd (by first | decide | omega) h)) | (refine MC.cond rfl (fun h => absurd h (by first | decide | omega)) (fun _ => ?_)) | (refine MC.cond rfl (fun _ => ?_) (fun h => absurd (by first | decide | omega) h)))
  refine MC.loop (σ := Nat) (fun i => [(0, true, ptr r), (1, true, int 2), (5, true, int 0), (6, true, int ((i : Nat) : Int))]) (fun i w => i ≤ 6 ∧ Sat (rjb r p 1 true (.slice none 0 0) (.slice none 0 0) :: rdev p (D.wrs (fun _ => many 256 0) 1 i) :: F) w) (fun i => 6 - i) 0 (by repeat (first | exact trivial | refine ⟨rfl, ?_⟩)) ⟨by decide, hs⟩ ?_
  rintro i w ⟨hi, hs⟩
  have hok := Dev.wrs_ok hD.ok (f := fun _ => many 256 0) (k := 1) (fun _ => by simp) i (by rw [hD.len]; omega)
  have hf := wrs_alive hD.fuse (fun _ => many 256 0) 1 i
  have hO : (D.wrs (fun _ => many 256 0) 1 i).O.length = i := by rw [Dev.wrs_O, hD.noO]; simp
  have hSl : (D.wrs (fun _ => many 256 0) 1 i).S.length = 8 := by rw [Dev.wrs_S]; exact hD.len
  rcases Nat.lt_or_ge i 6 with hlt | hge
  · repeat (first | (refine MC.run1 tab 1000 rfl rfl (by first | exact True.intro | (simp only [Conds, rng, Int.toNat_natCast, List.length_append, bytesV_length] <;> omega) | (simp [Conds, rng] <;> omega) | (simp only [Conds, rng, wrap_u8, wrap_u16, wrap_u32, wrap_u64] <;> omega)) ?_) | (refine MC.la true (la_load1 hs rfl (by rfl)) rfl ?_) | (refine MC.part rfl rfl (fun h => absurd h (by first | decide | omega)) (fun _ => ?_)) | (refine MC.part rfl rfl (fun _ => ?_) (fun h => absurd (by first | decide | omega) h)) | (refine MC.cond rfl (fun h => absurd h (by first | decide | omega)) (fun _ => ?_)) | (refine MC.cond rfl (fun _ => ?_) (fun h => absurd (by first | decide | omega) h)))
    refine MC.draw hs [0,1,2,3,4,5,6,7,8,9,10,11,12,13] (by rfl) ?_; intro w hs
    repeat (first | (refine MC.run1 tab 1000 rfl rfl (by first | exact True.intro | (simp only [Conds, rng, Int.toNat_natCast, List.length_append, bytesV_length] <;> omega) | (simp [Conds, rng] <;> omega) | (simp only [Conds, rng, wrap_u8, wrap_u16, wrap_u32, wrap_u64] <;> omega)) ?_) | (refine MC.laD true (la_load1 hs rfl (by rfl)) rfl ?_) | (refine MC.part rfl rfl (fun h => absurd h (by first | decide | omega)) (fun _ => ?_)) | (refine MC.part rfl rfl (fun _ => ?_) (fun h => absurd (by first | decide | omega) h)) | (refine MC.cond rfl (fun h => absurd h (by first | decide | omega)) (fun _ => ?_)) | (refine MC.cond rfl (fun _ => ?_) (fun h => absurd (by first | decide | omega) h)))
    refine MC.doesK true (does_makeSliceI 256 256 hs rfl rfl (by omega) (by omega) (Nat.le_refl _) (by omega) (by omega)) rfl rfl rfl ?_
    rintro _ w ⟨b1, rfl, hs⟩
    refine ⟨(by repeat (first | exact True.intro | refine ⟨At.sat hs, ?_⟩ | refine ⟨Suf.sat hs, ?_⟩)), ?_⟩
    rw [← zeros_bytes] at hs
    have hs : Sat (sl (.slice (some ⟨b1, 0, none⟩) 256 256) 5 1 256 (bytesV (many 256 0)) :: rjb r p 1 true (.slice none 0 0) (.slice none 0 0) :: rdev p (D.wrs (fun _ => many 256 0) 1 i) :: F) w := Sat.sl_mk (spare := []) (by rw [List.append_nil]; exact hs) (Nat.le_refl _) (by simp) (by simp)
    have hs := hs.pickF 3 [1, 2, 0] rfl rfl
    have hrz := RdS.of_sl hs.tail.tail
    repeat (first | (refine MC.run1 tab 1000 rfl rfl (by first | exact True.intro | (simp only [Conds, rng, Int.toNat_natCast, List.length_append, bytesV_length] <;> omega) | (simp [Conds, rng] <;> omega) | (simp only [Conds, rng, wrap_u8, wrap_u16, wrap_u32, wrap_u64] <;> omega)) ?_) | (refine MC.laD true (la_load1 hs rfl (by rfl)) rfl ?_) | (refine MC.part rfl rfl (fun h => absurd h (by first | decide | omega)) (fun _ => ?_)) | (refine MC.part rfl rfl (fun _ => ?_) (fun h => absurd (by first | decide | omega) h)) | (refine MC.cond rfl (fun h => absurd h (by first | decide | omega)) (fun _ => ?_)) | (refine MC.cond rfl (fun _ => ?_) (fun h => absurd (by first | decide | omega) h)))
    refine MC.laD true (la_tostr rfl hrz hs) rfl ?_
    have hput := rput_spec (k := 1 + i) (b := many 256 0) hs.swap hok (by omega) (by simp) (by omega)
    rw [if_neg (by omega), if_neg (by omega)] at hput
    have ei : (1 : Int) + ((i : Nat) : Int) = ((1 + i : Nat) : Int) := by omega
    obtain ⟨ZZ, hZZ⟩ : ∃ ZZ, many 256 0 = ZZ := ⟨_, rfl⟩
    rw [hZZ]
    rw [hZZ] at hput
    repeat (first | (refine MC.run1 tab 1000 rfl rfl (by first | exact True.intro | (simp only [Conds, rng, Int.toNat_natCast, List.length_append, bytesV_length] <;> omega) | (simp [Conds, rng] <;> omega) | (simp only [Conds, rng, wrap_u8, wrap_u16, wrap_u32, wrap_u64] <;> omega)) ?_) | (refine MC.laD true (la_load1 hs rfl (by rfl)) rfl ?_) | (refine MC.part rfl rfl (fun h => absurd h (by first | decide | omega)) (fun _ => ?_)) | (refine MC.part rfl rfl (fun _ => ?_) (fun h => absurd (by first | decide | omega) h)) | (refine MC.cond rfl (fun h => absurd h (by first | decide | omega)) (fun _ => ?_)) | (refine MC.cond rfl (fun _ => ?_) (fun h => absurd (by first | decide | omega) h)))
    rw [ei]
    refine MC.doesK true (does_call rfl hput) rfl rfl rfl ?_
    rintro _ w ⟨rfl, hs⟩
    refine ⟨(by repeat (first | exact True.intro | refine ⟨At.sat hs, ?_⟩ | refine ⟨Suf.sat hs, ?_⟩)), ?_⟩
    have hs := hs.pickF 3 [1, 0] rfl rfl
    repeat (first | (refine MC.run1 tab 1000 rfl rfl (by first | exact True.intro | (simp only [Conds, rng, Int.toNat_natCast, List.length_append, bytesV_length] <;> omega) | (simp [Conds, rng] <;> omega) | (simp only [Conds, rng, wrap_u8, wrap_u16, wrap_u32, wrap_u64] <;> omega)) ?_) | (refine MC.laD true (la_load1 hs rfl (by rfl)) rfl ?_) | (refine MC.part rfl rfl (fun h => absurd h (by first | decide | omega)) (fun _ => ?_)) | (refine MC.part rfl rfl (fun _ => ?_) (fun h => absurd (by first | decide | omega) h)) | (refine MC.cond rfl (fun h => absurd h (by first | decide | omega)) (fun _ => ?_)) | (refine MC.cond rfl (fun _ => ?_) (fun h => absurd (by first | decide | omega) h)))
    repeat (first | (refine MC.run1 tab 1000 rfl rfl (by first | exact True.intro | (simp only [Conds, rng, Int.toNat_natCast, List.length_append, bytesV_length] <;> omega) | (simp [Conds, rng] <;> omega) | (simp only [Conds, rng, wrap_u8, wrap_u16, wrap_u32, wrap_u64] <;> omega)) ?_) | (refine MC.la true (la_load1 hs rfl (by rfl)) rfl ?_) | (refine MC.part rfl rfl (fun h => absurd h (by first | decide | omega)) (fun _ => ?_)) | (refine MC.part rfl rfl (fun _ => ?_) (fun h => absurd (by first | decide | omega) h)) | (refine MC.cond rfl (fun h => absurd h (by first | decide | omega)) (fun _ => ?_)) | (refine MC.cond rfl (fun _ => ?_) (fun h => absurd (by first | decide | omega) h)))
    refine MC.again (i + 1) (by repeat (first | exact trivial | refine ⟨rfl, ?_⟩)) ⟨hlt, ?_⟩ (by omega)
    rw [← hZZ] at hs ⊢
    exact hs
  · obtain rfl : i = 6 := by omega
    have hsy := rsync_spec hs.swap hok (by omega)
    rw [if_neg (by omega), if_neg (by omega)] at hsy
    repeat (first | (refine MC.run1 tab 1000 rfl rfl (by first | exact True.intro | (simp only [Conds, rng, Int.toNat_natCast, List.length_append, bytesV_length] <;> omega) | (simp [Conds, rng] <;> omega) | (simp only [Conds, rng, wrap_u8, wrap_u16, wrap_u32, wrap_u64] <;> omega)) ?_) | (refine MC.la true (la_load1 hs rfl (by rfl)) rfl ?_) | (refine MC.part rfl rfl (fun h => absurd h (by first | decide | omega)) (fun _ => ?_)) | (refine MC.part rfl rfl (fun _ => ?_) (fun h => absurd (by first | decide | omega) h)) | (refine MC.cond rfl (fun h => absurd h (by first | decide | omega)) (fun _ => ?_)) | (refine MC.cond rfl (fun _ => ?_) (fun h => absurd (by first | decide | omega) h)))
    refine MC.does true (does_call rfl (hsy)) rfl ?_
    rintro _ w ⟨rfl, hs⟩
    have hs := hs.swap
    repeat (first | (refine MC.run1 tab 1000 rfl rfl (by first | exact True.intro | (simp only [Conds, rng, Int.toNat_natCast, List.length_append, bytesV_length] <;> omega) | (simp [Conds, rng] <;> omega) | (simp only [Conds, rng, wrap_u8, wrap_u16, wrap_u32, wrap_u64] <;> omega)) ?_) | (refine MC.la true (la_load1 hs rfl (by rfl)) rfl ?_) | (refine MC.part rfl rfl (fun h => absurd h (by first | decide | omega)) (fun _ => ?_)) | (refine MC.part rfl rfl (fun _ => ?_) (fun h => absurd (by first | decide | omega) h)) | (refine MC.cond rfl (fun h => absurd h (by first | decide | omega)) (fun _ => ?_)) | (refine MC.cond rfl (fun _ => ?_) (fun h => absurd (by first | decide | omega) h)))
    refine MC.does true (does_store1 hs rfl rfl rfl (by first | decide | (simp; done) | (simp; omega))) rfl ?_; intro _ w hs
    repeat (first | (refine MC.run1 tab 1000 rfl rfl (by first | exact True.intro | (simp only [Conds, rng, Int.toNat_natCast, List.length_append, bytesV_length] <;> omega) | (simp [Conds, rng] <;> omega) | (simp only [Conds, rng, wrap_u8, wrap_u16, wrap_u32, wrap_u64] <;> omega)) ?_) | (refine MC.la true (la_load1 hs rfl (by rfl)) rfl ?_) | (refine MC.part rfl rfl (fun h => absurd h (by first | decide | omega)) (fun _ => ?_)) | (refine MC.part rfl rfl (fun _ => ?_) (fun h => absurd (by first | decide | omega) h)) | (refine MC.cond rfl (fun h => absurd h (by first | decide | omega)) (fun _ => ?_)) | (refine MC.cond rfl (fun _ => ?_) (fun h => absurd (by first | decide | omega) h)))
    refine MC.does true (does_store1 hs rfl rfl rfl (by first | decide | (simp; done) | (simp; omega))) rfl ?_; intro _ w hs
    repeat (first | (refine MC.run1 tab 1000 rfl rfl (by first | exact True.intro | (simp only [Conds, rng, Int.toNat_natCast, List.length_append, bytesV_length] <;> omega) | (simp [Conds, rng] <;> omega) | (simp only [Conds, rng, wrap_u8, wrap_u16, wrap_u32, wrap_u64] <;> omega)) ?_) | (refine MC.la true (la_load1 hs rfl (by rfl)) rfl ?_) | (refine MC.part rfl rfl (fun h => absurd h (by first | decide | omega)) (fun _ => ?_)) | (refine MC.part rfl rfl (fun _ => ?_) (fun h => absurd (by first | decide | omega) h)) | (refine MC.cond rfl (fun h => absurd h (by first | decide | omega)) (fun _ => ?_)) | (refine MC.cond rfl (fun _ => ?_) (fun h => absurd (by first | decide | omega) h)))
    refine MC.does true (does_store1 hs rfl rfl rfl (by first | decide | (simp; done) | (simp; omega))) rfl ?_; intro _ w hs
    repeat (first | (refine MC.run1 tab 1000 rfl rfl (by first | exact True.intro | (simp only [Conds, rng, Int.toNat_natCast, List.length_append, bytesV_length] <;> omega) | (simp [Conds, rng] <;> omega) | (simp only [Conds, rng, wrap_u8, wrap_u16, wrap_u32, wrap_u64] <;> omega)) ?_) | (refine MC.la true (la_load1 hs rfl (by rfl)) rfl ?_) | (refine MC.part rfl rfl (fun h => absurd h (by first | decide | omega)) (fun _ => ?_)) | (refine MC.part rfl rfl (fun _ => ?_) (fun h => absurd (by first | decide | omega) h)) | (refine MC.cond rfl (fun h => absurd h (by first | decide | omega)) (fun _ => ?_)) | (refine MC.cond rfl (fun _ => ?_) (fun h => absurd (by first | decide | omega) h)))
    refine MC.does true (does_store1 hs rfl rfl rfl (by first | decide | (simp; done) | (simp; omega))) rfl ?_; intro _ w hs
    repeat (first | (refine MC.run1 tab 1000 rfl rfl (by first | exact True.intro | (simp only [Conds, rng, Int.toNat_natCast, List.length_append, bytesV_length] <;> omega) | (simp [Conds, rng] <;> omega) | (simp only [Conds, rng, wrap_u8, wrap_u16, wrap_u32, wrap_u64] <;> omega)) ?_) | (refine MC.la true (la_load1 hs rfl (by rfl)) rfl ?_) | (refine MC.part rfl rfl (fun h => absurd h (by first | decide | omega)) (fun _ => ?_)) | (refine MC.part rfl rfl (fun _ => ?_) (fun h => absurd (by first | decide | omega) h)) | (refine MC.cond rfl (fun h => absurd h (by first | decide | omega)) (fun _ => ?_)) | (refine MC.cond rfl (fun _ => ?_) (fun h => absurd (by first | decide | omega) h)))
    refine MC.does true (does_store1 hs rfl rfl rfl (by first | decide | (simp; done) | (simp; omega))) rfl ?_; intro _ w hs
    repeat (first | (refine MC.run1 tab 1000 rfl rfl (by first | exact True.intro | (simp only [Conds, rng, Int.toNat_natCast, List.length_append, bytesV_length] <;> omega) | (simp [Conds, rng] <;> omega) | (simp only [Conds, rng, wrap_u8, wrap_u16, wrap_u32, wrap_u64] <;> omega)) ?_) | (refine MC.la true (la_load1 hs rfl (by rfl)) rfl ?_) | (refine MC.part rfl rfl (fun h => absurd h (by first | decide | omega)) (fun _ => ?_)) | (refine MC.part rfl rfl (fun _ => ?_) (fun h => absurd (by first | decide | omega) h)) | (refine MC.cond rfl (fun h => absurd h (by first | decide | omega)) (fun _ => ?_)) | (refine MC.cond rfl (fun _ => ?_) (fun h => absurd (by first | decide | omega) h)))
    refine MC.ret rfl ?_
    exact ⟨rfl, hs⟩
theorem rbegan_spec {F : List Assn} {w : World} (hs : Sat F w) :
    Ret Tryd.prog 23 [] w fun v w' => ∃ p r D, v = ptr r ∧ Dok D ∧ lies D [] ∧ Sat (rjb r p 2 false (.slice none 0 0) (.slice none 0 0) :: rdev p D :: F) w' := by
  refine Ret.enter [] _ Tryd.func23 rfl Tryd.ntmps23 rfl ?_
  repeat (first | (refine MC.run1 tab 1000 rfl rfl (by first | exact True.intro | (simp only [Conds, rng, Int.toNat_natCast, List.length_append, bytesV_length] <;> omega) | (simp [Conds, rng] <;> omega) | (simp only [Conds, rng, wrap_u8, wrap_u16, wrap_u32, wrap_u64] <;> omega)) ?_) | (refine MC.la true (la_load1 hs rfl (by rfl)) rfl ?_) | (refine MC.part rfl rfl (fun h => absurd h (by first | decide | omega)) (fun _ => ?_)) | (refine MC.part rfl rfl (fun _ => ?_) (fun h => absurd (by first | decide | omega) h)) | (refine MC.cond rfl (fun h => absurd h (by first | decide | omega)) (fun _ => ?_)) | (refine MC.cond rfl (fun _ => ?_) (fun h => absurd (by first | decide | omega) h)))
  refine MC.does true (does_call rfl (rnew_spec hs (n := 8) (by decide) (by decide))) rfl ?_
  rintro _ w ⟨p, rfl, hs⟩
  repeat (first | (refine MC.run1 tab 1000 rfl rfl (by first | exact True.intro | (simp only [Conds, rng, Int.toNat_natCast, List.length_append, bytesV_length] <;> omega) | (simp [Conds, rng] <;> omega) | (simp only [Conds, rng, wrap_u8, wrap_u16, wrap_u32, wrap_u64] <;> omega)) ?_) | (refine MC.la true (la_load1 hs rfl (by rfl)) rfl ?_) | (refine MC.part rfl rfl (fun h => absurd h (by first | decide | omega)) (fun _ => ?_)) | (refine MC.part rfl rfl (fun _ => ?_) (fun h => absurd (by first | decide | omega) h)) | (refine MC.cond rfl (fun h => absurd h (by first | decide | omega)) (fun _ => ?_)) | (refine MC.cond rfl (fun _ => ?_) (fun h => absurd (by first | decide | omega) h)))
  refine MC.does true (does_call rfl (ropen_spec hs)) rfl ?_
  rintro _ w ⟨r, rfl, hs⟩
  have hD := Dok.new8
  generalize Dev.new 8 = D at hs hD
  repeat (first | (refine MC.run1 tab 1000 rfl rfl (by first | exact True.intro | (simp only [Conds, rng, Int.toNat_natCast, List.length_append, bytesV_length] <;> omega) | (simp [Conds, rng] <;> omega) | (simp only [Conds, rng, wrap_u8, wrap_u16, wrap_u32, wrap_u64] <;> omega)) ?_) | (refine MC.la true (la_load1 hs rfl (by rfl)) rfl ?_) | (refine MC.part rfl rfl (fun h => absurd h (by first | decide | omega)) (fun _ => ?_)) | (refine MC.part rfl rfl (fun _ => ?_) (fun h => absurd (by first | decide | omega) h)) | (refine MC.cond rfl (fun h => absurd h (by first | decide | omega)) (fun _ => ?_)) | (refine MC.cond rfl (fun _ => ?_) (fun h => absurd (by first | decide | omega) h)))
  refine MC.does true (does_call rfl (rreset_spec hs hD)) rfl ?_
  rintro _ w ⟨rfl, hs⟩
  repeat (first | (refine MC.run1 tab 1000 rfl rfl (by first | exact True.intro | (simp only [Conds, rng, Int.toNat_natCast, List.length_append, bytesV_length] <;> omega) | (simp [Conds, rng] <;> omega) | (simp only [Conds, rng, wrap_u8, wrap_u16, wrap_u32, wrap_u64] <;> omega)) ?_) | (refine MC.la true (la_load1 hs rfl (by rfl)) rfl ?_) | (refine MC.part rfl rfl (fun h => absurd h (by first | decide | omega)) (fun _ => ?_)) | (refine MC.part rfl rfl (fun _ => ?_) (fun h => absurd (by first | decide | omega) h)) | (refine MC.cond rfl (fun h => absurd h (by first | decide | omega)) (fun _ => ?_)) | (refine MC.cond rfl (fun _ => ?_) (fun h => absurd (by first | decide | omega) h)))
  refine MC.ret rfl ?_
  exact ⟨p, r, _, rfl, hD.burst (by decide) (fun _ => by simp), lies_wiped hD, hs⟩
end Go.Proofs.YtoigogonccjagaaDoor

namespace Go.Proofs.YtoigogonccjagaaDoor
open Go Go.Sl Go.Jn
attribute [local irreducible] LooksAt sumB sumF recB

def rj (r p : Nat) (Dn Nw : List (Value × Bs)) : Assn := Sl.ex fun vD : Value => Sl.ex fun vN : Value => star [rjb r p 2 false vD vN, sl vD 22 1 Dn.length (hd Dn), sl vN 22 1 Nw.length (hd Nw), bods 5 (Dn ++ Nw)]
section
variable {F : List Assn} {r p : Nat} {Dn Nw : List (Value × Bs)} {w : World}
theorem rj_open (hs : Sat (rj r p Dn Nw :: F) w) : ∃ vD vN, Sat (rjb r p 2 false vD vN :: sl vD 22 1 Dn.length (hd Dn) :: sl vN 22 1 Nw.length (hd Nw) :: bods 5 (Dn ++ Nw) :: F) w := by
  obtain ⟨vD, hs⟩ := Sat.ex_iff.1 hs
  obtain ⟨vN, hs⟩ := Sat.ex_iff.1 hs
  exact ⟨vD, vN, hs.unstar⟩
theorem rj_shut {vD vN : Value} (hs : Sat (rjb r p 2 false vD vN :: sl vD 22 1 Dn.length (hd Dn) :: sl vN 22 1 Nw.length (hd Nw) :: bods 5 (Dn ++ Nw) :: F) w) : Sat (rj r p Dn Nw :: F) w :=
  Sat.ex_iff.2 ⟨vD, Sat.ex_iff.2 ⟨vN, Sat.restar (l := [_, _, _, _]) hs⟩⟩
end
theorem szB_take (l : List Bs) (i : Nat) (h : i < l.length) : szB (l.take (i + 1)) = szB (l.take i) + (14 + l[i].length) := by
  rw [List.take_add_one, List.getElem?_eq_getElem h, szB_app]; simp [szB]
theorem szB_le (l : List Bs) (i : Nat) : szB (l.take i) ≤ szB l := by
  have := szB_app (l.take i) (l.drop i)
  rw [List.take_append_drop] at this
  omega
theorem size16_spec {F : List Assn} {w : World} {vl : Value} {l : List (Value × Bs)} (hs : Sat F w) (hl : RdS F 1 vl l.length (hd l)) (hx : ∀ x ∈ l, ∃ q c, x.1 = .slice q x.2.length c) (hb : szB (bd l) ≤ 1000000) :
    Ret Tryd.prog 47 [vl] w fun v w' => v = int ((szB (bd l) : Nat) : Int) ∧ w' = w := by
  obtain ⟨ql, cl, rfl, hcl, _⟩ := hl.shape
  have hfew := szB_few (bd l)
  rw [bd_length] at hfew
  refine Ret.enter [(true, .slice ql l.length cl)] _ Tryd.func47 rfl Tryd.ntmps47 rfl ?_
  repeat (first | (refine MC.run1 tab 1000 rfl rfl (by first | exact True.intro | (simp only [Conds, rng, Int.toNat_natCast, List.length_append, bytesV_length] <;> omega) | (simp [Conds, rng] <;> omega) | (simp only [Conds, rng, wrap_u8, wrap_u16, wrap_u32, wrap_u64] <;> omega)) ?_) | (refine MC.la true (la_load1 hs rfl (by rfl)) rfl ?_) | (refine MC.part rfl rfl (fun h => absurd h (by first | decide | omega)) (fun _ => ?_)) | (refine MC.part rfl rfl (fun _ => ?_) (fun h => absurd (by first | decide | omega) h)) | (refine MC.cond rfl (fun h => absurd h (by first | decide | omega)) (fun _ => ?_)) | (refine MC.cond rfl (fun _ => ?_) (fun h => absurd (by first | decide | omega) h)))
  refine MC.loop (σ := Nat) (fun i => [(0, true, .slice ql l.length cl), (3, true, int ((szB (bd (l.take i)) : Nat) : Int)), (4, true, int ((i : Nat) : Int))]) (fun i w' => i ≤ l.length ∧ w' = w) (fun i => l.length - i) 0 (by repeat (first | exact trivial | refine ⟨rfl, ?_⟩)) ⟨Nat.zero_le _, rfl⟩ ?_
  rintro i w' ⟨hi, rfl⟩
  rcases Nat.lt_or_ge i l.length with hlt | hge
  · obtain ⟨bl, ol, rfl, hrl⟩ := hl.at_ (by omega)
    have hat := hd_at l i hlt
    obtain ⟨q, c, hqc⟩ := hx _ (List.getElem_mem hlt)
    have e1 : szB (bd (l.take (i + 1))) = szB (bd (l.take i)) + (14 + (l[i]).2.length) := by
      have := szB_take (bd l) i (by rw [bd_length]; exact hlt)
      simpa [bd, List.map_take] using this
    have e2 : szB (bd (l.take (i + 1))) ≤ szB (bd l) := by
      have := szB_le (bd l) (i + 1)
      simpa [bd, List.map_take] using this
    obtain ⟨x, hx⟩ : ∃ x, l[i] = x := ⟨_, rfl⟩
    rw [hx] at hat hqc e1
    rw [hqc] at hat
    obtain ⟨M, hM⟩ : ∃ M, szB (bd (l.take i)) = M := ⟨_, rfl⟩
    rw [hM] at e1 ⊢
    repeat (first | (refine MC.run1 tab 1000 rfl rfl (by first | exact True.intro | (simp only [Conds, rng, Int.toNat_natCast, List.length_append, bytesV_length] <;> omega) | (simp [Conds, rng] <;> omega) | (simp only [Conds, rng, wrap_u8, wrap_u16, wrap_u32, wrap_u64] <;> omega)) ?_) | (refine MC.la true (la_load1 hs rfl (by rfl)) rfl ?_) | (refine MC.part rfl rfl (fun h => absurd h (by first | decide | omega)) (fun _ => ?_)) | (refine MC.part rfl rfl (fun _ => ?_) (fun h => absurd (by first | decide | omega) h)) | (refine MC.cond rfl (fun h => absurd h (by first | decide | omega)) (fun _ => ?_)) | (refine MC.cond rfl (fun _ => ?_) (fun h => absurd (by first | decide | omega) h)))
    refine MC.la true (la_load1_rd hrl hs (j := ((i : Nat) : Int).toNat * 1) rfl hat) rfl ?_
    repeat (first | (refine MC.run1 tab 1000 rfl rfl (by first | exact True.intro | (simp only [Conds, rng, Int.toNat_natCast, List.length_append, bytesV_length] <;> omega) | (simp [Conds, rng] <;> omega) | (simp only [Conds, rng, wrap_u8, wrap_u16, wrap_u32, wrap_u64] <;> omega)) ?_) | (refine MC.la true (la_load1 hs rfl (by rfl)) rfl ?_) | (refine MC.part rfl rfl (fun h => absurd h (by first | decide | omega)) (fun _ => ?_)) | (refine MC.part rfl rfl (fun _ => ?_) (fun h => absurd (by first | decide | omega) h)) | (refine MC.cond rfl (fun h => absurd h (by first | decide | omega)) (fun _ => ?_)) | (refine MC.cond rfl (fun _ => ?_) (fun h => absurd (by first | decide | omega) h)))
    have e3 : ((M : Nat) : Int) + 14 + ((x.2.length : Nat) : Int) = ((szB (bd (l.take (i + 1))) : Nat) : Int) := by omega
    rw [e3]
    exact MC.again (i + 1) (by repeat (first | exact trivial | refine ⟨rfl, ?_⟩)) ⟨hlt, rfl⟩ (by omega)
  · obtain rfl : i = l.length := by omega
    rw [List.take_length]
    repeat (first | (refine MC.run1 tab 1000 rfl rfl (by first | exact True.intro | (simp only [Conds, rng, Int.toNat_natCast, List.length_append, bytesV_length] <;> omega) | (simp [Conds, rng] <;> omega) | (simp only [Conds, rng, wrap_u8, wrap_u16, wrap_u32, wrap_u64] <;> omega)) ?_) | (refine MC.la true (la_load1 hs rfl (by rfl)) rfl ?_) | (refine MC.part rfl rfl (fun h => absurd h (by first | decide | omega)) (fun _ => ?_)) | (refine MC.part rfl rfl (fun _ => ?_) (fun h => absurd (by first | decide | omega) h)) | (refine MC.cond rfl (fun h => absurd h (by first | decide | omega)) (fun _ => ?_)) | (refine MC.cond rfl (fun _ => ?_) (fun h => absurd (by first | decide | omega) h)))
    refine MC.ret rfl ?_
    exact ⟨rfl, rfl⟩
theorem rd_shape {F : List Assn} {w : World} {l : List (Value × Bs)} {t : TypeId} (hs : Sat (bods t l :: F) w) : ∀ x ∈ l, ∃ q c, x.1 = .slice q x.2.length c := fun x hx => by
  obtain ⟨q, c, e, _⟩ := (bods_rd hs hx).shape
  exact ⟨q, c, e⟩
theorem rused_spec {F : List Assn} {r p : Nat} {Dn Nw : List (Value × Bs)} {w : World} (hs : Sat (rj r p Dn Nw :: F) w) (hb : szB (bd Dn) ≤ 1000000) :
    Ret Tryd.prog 44 [ptr r] w fun v w' => v = int ((szB (bd Dn) : Nat) : Int) ∧ w' = w := by
  obtain ⟨vD, vN, hs⟩ := rj_open hs
  obtain ⟨-, qD, cD, rfl, -⟩ := (hs.pull 1 rfl).sl_len
  have hsz := size16_spec (l := Dn) hs (RdS.up (RdS.of_sl hs.tail)) (fun x hx => rd_shape (hs.pull 3 rfl) x (List.mem_append_left _ hx)) hb
  refine Ret.enter [(true, ptr r)] _ Tryd.func44 rfl Tryd.ntmps44 rfl ?_
  repeat (first | (refine MC.run1 tab 1000 rfl rfl (by first | exact True.intro | (simp only [Conds, rng, Int.toNat_natCast, List.length_append, bytesV_length] <;> omega) | (simp [Conds, rng] <;> omega) | (simp only [Conds, rng, wrap_u8, wrap_u16, wrap_u32, wrap_u64] <;> omega)) ?_) | (refine MC.la true (la_load1 hs rfl (by rfl)) rfl ?_) | (refine MC.part rfl rfl (fun h => absurd h (by first | decide | omega)) (fun _ => ?_)) | (refine MC.part rfl rfl (fun _ => ?_) (fun h => absurd (by first | decide | omega) h)) | (refine MC.cond rfl (fun h => absurd h (by first | decide | omega)) (fun _ => ?_)) | (refine MC.cond rfl (fun _ => ?_) (fun h => absurd (by first | decide | omega) h)))
  refine MC.does true (does_call rfl (hsz)) rfl ?_
  rintro _ w ⟨rfl, rfl⟩
  repeat (first | (refine MC.run1 tab 1000 rfl rfl (by first | exact True.intro | (simp only [Conds, rng, Int.toNat_natCast, List.length_append, bytesV_length] <;> omega) | (simp [Conds, rng] <;> omega) | (simp only [Conds, rng, wrap_u8, wrap_u16, wrap_u32, wrap_u64] <;> omega)) ?_) | (refine MC.la true (la_load1 hs rfl (by rfl)) rfl ?_) | (refine MC.part rfl rfl (fun h => absurd h (by first | decide | omega)) (fun _ => ?_)) | (refine MC.part rfl rfl (fun _ => ?_) (fun h => absurd (by first | decide | omega) h)) | (refine MC.cond rfl (fun h => absurd h (by first | decide | omega)) (fun _ => ?_)) | (refine MC.cond rfl (fun _ => ?_) (fun h => absurd (by first | decide | omega) h)))
  refine MC.ret rfl ?_
  exact ⟨rfl, rfl⟩
set_option maxHeartbeats 2000000 in
theorem radd_spec {F : List Assn} {r p : Nat} {Dn Nw : List (Value × Bs)} {vb : Value} {b : Bs} {w : World} (hs : Sat (rj r p Dn Nw :: F) w) (hx : RdS F 1 vb b.length (bytesV b)) (hbl : b.length ≤ 9223372036854775807) (hb : szB (bd Dn ++ bd Nw) ≤ 1536) :
    Ret Tryd.prog 27 [ptr r, vb] w fun v w' => v = int (addN (szB (bd Dn ++ bd Nw)) b) ∧ ∃ Nw', bd Nw' = (if szB (bd Dn ++ bd Nw) + (14 + b.length) ≤ 1536 then bd Nw ++ [b] else bd Nw) ∧ Sat (rj r p Dn Nw' :: F) w' := by
  have hs0 := hs
  have hap := szB_app (bd Dn) (bd Nw)
  have hf1 := szB_few (bd Nw)
  rw [bd_length] at hf1
  obtain ⟨vD, vN, hs⟩ := rj_open hs
  obtain ⟨-, qD, cD, rfl, -⟩ := (hs.pull 1 rfl).sl_len
  obtain ⟨-, qN, cN, rfl, -⟩ := (hs.pull 2 rfl).sl_len
  obtain ⟨q, c, rfl, hc, _⟩ := hx.shape
  refine Ret.enter [(true, ptr r), (true, .slice q b.length c)] _ Tryd.func27 rfl Tryd.ntmps27 rfl ?_
  repeat (first | (refine MC.run1 tab 1000 rfl rfl (by first | exact True.intro | (simp only [Conds, rng, Int.toNat_natCast, List.length_append, bytesV_length] <;> omega) | (simp [Conds, rng] <;> omega) | (simp only [Conds, rng, wrap_u8, wrap_u16, wrap_u32, wrap_u64] <;> omega)) ?_) | (refine MC.la true (la_load1 hs rfl (by rfl)) rfl ?_) | (refine MC.part rfl rfl (fun h => absurd h (by first | decide | omega)) (fun _ => ?_)) | (refine MC.part rfl rfl (fun _ => ?_) (fun h => absurd (by first | decide | omega) h)) | (refine MC.cond rfl (fun h => absurd h (by first | decide | omega)) (fun _ => ?_)) | (refine MC.cond rfl (fun _ => ?_) (fun h => absurd (by first | decide | omega) h)))
  by_cases h3 : 65535 < b.length
  · have e : addN (szB (bd Dn ++ bd Nw)) b = 3 := by unfold addN; rw [if_pos h3]
    rw [e, if_neg (by omega)]
    repeat (first | (refine MC.run1 tab 1000 rfl rfl (by first | exact True.intro | (simp only [Conds, rng, Int.toNat_natCast, List.length_append, bytesV_length] <;> omega) | (simp [Conds, rng] <;> omega) | (simp only [Conds, rng, wrap_u8, wrap_u16, wrap_u32, wrap_u64] <;> omega)) ?_) | (refine MC.la true (la_load1 hs rfl (by rfl)) rfl ?_) | (refine MC.part rfl rfl (fun h => absurd h (by first | decide | omega)) (fun _ => ?_)) | (refine MC.part rfl rfl (fun _ => ?_) (fun h => absurd (by first | decide | omega) h)) | (refine MC.cond rfl (fun h => absurd h (by first | decide | omega)) (fun _ => ?_)) | (refine MC.cond rfl (fun _ => ?_) (fun h => absurd (by first | decide | omega) h)))
    refine MC.ret rfl ?_
    exact ⟨rfl, Nw, rfl, hs0⟩
  repeat (first | (refine MC.run1 tab 1000 rfl rfl (by first | exact True.intro | (simp only [Conds, rng, Int.toNat_natCast, List.length_append, bytesV_length] <;> omega) | (simp [Conds, rng] <;> omega) | (simp only [Conds, rng, wrap_u8, wrap_u16, wrap_u32, wrap_u64] <;> omega)) ?_) | (refine MC.la true (la_load1 hs rfl (by rfl)) rfl ?_) | (refine MC.part rfl rfl (fun h => absurd h (by first | decide | omega)) (fun _ => ?_)) | (refine MC.part rfl rfl (fun _ => ?_) (fun h => absurd (by first | decide | omega) h)) | (refine MC.cond rfl (fun h => absurd h (by first | decide | omega)) (fun _ => ?_)) | (refine MC.cond rfl (fun _ => ?_) (fun h => absurd (by first | decide | omega) h)))
  refine MC.draw hs [0,1,2,3,5,6,7,8,12,13,15,16,17,18,19,4,9,10,11,14,20] (by rfl) ?_; intro w hs
  have hsD := size16_spec (l := Dn) hs (RdS.up (RdS.of_sl hs.tail)) (fun x hx => rd_shape (hs.pull 3 rfl) x (List.mem_append_left _ hx)) (by omega)
  have hsN := size16_spec (l := Nw) hs (RdS.up (RdS.of_sl hs.tail.tail)) (fun x hx => rd_shape (hs.pull 3 rfl) x (List.mem_append_right _ hx)) (by omega)
  obtain ⟨M, hM⟩ : ∃ M, szB (bd Dn) = M := ⟨_, rfl⟩
  obtain ⟨N, hN⟩ : ∃ N, szB (bd Nw) = N := ⟨_, rfl⟩
  rw [hM, hN] at hap
  rw [hM] at hsD
  rw [hN] at hsN
  repeat (first | (refine MC.run1 tab 1000 rfl rfl (by first | exact True.intro | (simp only [Conds, rng, Int.toNat_natCast, List.length_append, bytesV_length] <;> omega) | (simp [Conds, rng] <;> omega) | (simp only [Conds, rng, wrap_u8, wrap_u16, wrap_u32, wrap_u64] <;> omega)) ?_) | (refine MC.laD true (la_load1 hs rfl (by rfl)) rfl ?_) | (refine MC.part rfl rfl (fun h => absurd h (by first | decide | omega)) (fun _ => ?_)) | (refine MC.part rfl rfl (fun _ => ?_) (fun h => absurd (by first | decide | omega) h)) | (refine MC.cond rfl (fun h => absurd h (by first | decide | omega)) (fun _ => ?_)) | (refine MC.cond rfl (fun _ => ?_) (fun h => absurd (by first | decide | omega) h)))
  refine MC.doesK true (does_call rfl hsD) rfl rfl rfl ?_
  rintro _ w ⟨rfl, rfl⟩
  refine ⟨(by repeat (first | exact True.intro | refine ⟨At.sat hs, ?_⟩ | refine ⟨Suf.sat hs, ?_⟩)), ?_⟩
  repeat (first | (refine MC.run1 tab 1000 rfl rfl (by first | exact True.intro | (simp only [Conds, rng, Int.toNat_natCast, List.length_append, bytesV_length] <;> omega) | (simp [Conds, rng] <;> omega) | (simp only [Conds, rng, wrap_u8, wrap_u16, wrap_u32, wrap_u64] <;> omega)) ?_) | (refine MC.laD true (la_load1 hs rfl (by rfl)) rfl ?_) | (refine MC.part rfl rfl (fun h => absurd h (by first | decide | omega)) (fun _ => ?_)) | (refine MC.part rfl rfl (fun _ => ?_) (fun h => absurd (by first | decide | omega) h)) | (refine MC.cond rfl (fun h => absurd h (by first | decide | omega)) (fun _ => ?_)) | (refine MC.cond rfl (fun _ => ?_) (fun h => absurd (by first | decide | omega) h)))
  refine MC.doesK true (does_call rfl hsN) rfl rfl rfl ?_
  rintro _ w ⟨rfl, rfl⟩
  refine ⟨(by repeat (first | exact True.intro | refine ⟨At.sat hs, ?_⟩ | refine ⟨Suf.sat hs, ?_⟩)), ?_⟩
  repeat (first | (refine MC.run1 tab 1000 rfl rfl (by first | exact True.intro | (simp only [Conds, rng, Int.toNat_natCast, List.length_append, bytesV_length] <;> omega) | (simp [Conds, rng] <;> omega) | (simp only [Conds, rng, wrap_u8, wrap_u16, wrap_u32, wrap_u64] <;> omega)) ?_) | (refine MC.laD true (la_load1 hs rfl (by rfl)) rfl ?_) | (refine MC.part rfl rfl (fun h => absurd h (by first | decide | omega)) (fun _ => ?_)) | (refine MC.part rfl rfl (fun _ => ?_) (fun h => absurd (by first | decide | omega) h)) | (refine MC.cond rfl (fun h => absurd h (by first | decide | omega)) (fun _ => ?_)) | (refine MC.cond rfl (fun _ => ?_) (fun h => absurd (by first | decide | omega) h)))
  by_cases hfit : szB (bd Dn ++ bd Nw) + (14 + b.length) ≤ 1536
  · have e : addN (szB (bd Dn ++ bd Nw)) b = 0 := addN_zero.2 hfit
    rw [e, if_pos hfit]
    repeat (first | (refine MC.run1 tab 1000 rfl rfl (by first | exact True.intro | (simp only [Conds, rng, Int.toNat_natCast, List.length_append, bytesV_length] <;> omega) | (simp [Conds, rng] <;> omega) | (simp only [Conds, rng, wrap_u8, wrap_u16, wrap_u32, wrap_u64] <;> omega)) ?_) | (refine MC.la true (la_load1 hs rfl (by rfl)) rfl ?_) | (refine MC.part rfl rfl (fun h => absurd h (by first | decide | omega)) (fun _ => ?_)) | (refine MC.part rfl rfl (fun _ => ?_) (fun h => absurd (by first | decide | omega) h)) | (refine MC.cond rfl (fun h => absurd h (by first | decide | omega)) (fun _ => ?_)) | (refine MC.cond rfl (fun _ => ?_) (fun h => absurd (by first | decide | omega) h)))
    refine MC.draw hs [0,1,2,3,4,6,5,7,8,9,10,11,12] (by rfl) ?_; intro w hs
    repeat (first | (refine MC.run1 tab 1000 rfl rfl (by first | exact True.intro | (simp only [Conds, rng, Int.toNat_natCast, List.length_append, bytesV_length] <;> omega) | (simp [Conds, rng] <;> omega) | (simp only [Conds, rng, wrap_u8, wrap_u16, wrap_u32, wrap_u64] <;> omega)) ?_) | (refine MC.laD true (la_load1 hs rfl (by rfl)) rfl ?_) | (refine MC.part rfl rfl (fun h => absurd h (by first | decide | omega)) (fun _ => ?_)) | (refine MC.part rfl rfl (fun _ => ?_) (fun h => absurd (by first | decide | omega) h)) | (refine MC.cond rfl (fun h => absurd h (by first | decide | omega)) (fun _ => ?_)) | (refine MC.cond rfl (fun _ => ?_) (fun h => absurd (by first | decide | omega) h)))
    refine MC.doesK true (does_buildSlice0 hs) rfl rfl rfl ?_
    rintro _ w ⟨b1, rfl, hs⟩
    refine ⟨(by repeat (first | exact True.intro | refine ⟨At.sat hs, ?_⟩ | refine ⟨Suf.sat hs, ?_⟩)), ?_⟩
    have hs : Sat (sl (.slice (some ⟨b1, 0, none⟩) 0 0) 5 1 0 [] :: rjb r p 2 false (.slice qD Dn.length cD) (.slice qN Nw.length cN) :: sl (.slice qD Dn.length cD) 22 1 Dn.length (hd Dn) :: sl (.slice qN Nw.length cN) 22 1 Nw.length (hd Nw) :: bods 5 (Dn ++ Nw) :: F) w := Sat.sl_mk (xs := []) (spare := []) hs (Nat.le_refl _) rfl rfl
    repeat (first | (refine MC.run1 tab 1000 rfl rfl (by first | exact True.intro | (simp only [Conds, rng, Int.toNat_natCast, List.length_append, bytesV_length] <;> omega) | (simp [Conds, rng] <;> omega) | (simp only [Conds, rng, wrap_u8, wrap_u16, wrap_u32, wrap_u64] <;> omega)) ?_) | (refine MC.laD true (la_load1 hs rfl (by rfl)) rfl ?_) | (refine MC.part rfl rfl (fun h => absurd h (by first | decide | omega)) (fun _ => ?_)) | (refine MC.part rfl rfl (fun _ => ?_) (fun h => absurd (by first | decide | omega) h)) | (refine MC.cond rfl (fun h => absurd h (by first | decide | omega)) (fun _ => ?_)) | (refine MC.cond rfl (fun _ => ?_) (fun h => absurd (by first | decide | omega) h)))
    refine MC.doesK true (does_append hs rfl rfl (RdS.src hx (bytesV_one _)) (by omega) (by omega)) rfl rfl rfl ?_
    intro vn w hs
    rw [Nat.zero_add, List.nil_append] at hs
    refine ⟨(by repeat (first | exact True.intro | refine ⟨At.sat hs, ?_⟩ | refine ⟨Suf.sat hs, ?_⟩)), ?_⟩
    obtain ⟨_, qn, cn, rfl, _⟩ := hs.sl_len
    repeat (first | (refine MC.run1 tab 1000 rfl rfl (by first | exact True.intro | (simp only [Conds, rng, Int.toNat_natCast, List.length_append, bytesV_length] <;> omega) | (simp [Conds, rng] <;> omega) | (simp only [Conds, rng, wrap_u8, wrap_u16, wrap_u32, wrap_u64] <;> omega)) ?_) | (refine MC.laD true (la_load1 hs rfl (by rfl)) rfl ?_) | (refine MC.part rfl rfl (fun h => absurd h (by first | decide | omega)) (fun _ => ?_)) | (refine MC.part rfl rfl (fun _ => ?_) (fun h => absurd (by first | decide | omega) h)) | (refine MC.cond rfl (fun h => absurd h (by first | decide | omega)) (fun _ => ?_)) | (refine MC.cond rfl (fun _ => ?_) (fun h => absurd (by first | decide | omega) h)))
    refine MC.doesK true (does_buildL hs rfl rfl rfl (by first | (intro u hu; simp only [List.mem_cons, List.not_mem_nil, or_false] at hu; rcases hu with rfl | rfl | rfl | rfl | rfl | rfl | rfl | rfl <;> rfl) | (intro u hu; simp only [List.mem_cons, List.not_mem_nil, or_false] at hu; rcases hu with rfl | rfl | rfl | rfl <;> rfl) | (intro u hu; simp only [List.mem_cons, List.not_mem_nil, or_false] at hu; rcases hu with rfl | rfl <;> rfl) | (intro u hu; simp only [List.mem_cons, List.not_mem_nil, or_false] at hu; subst hu; rfl)) rfl) rfl rfl rfl ?_; rintro _ w ⟨b2, rfl, hs⟩; refine ⟨(by repeat (first | exact True.intro | refine ⟨At.sat hs, ?_⟩ | refine ⟨Suf.sat hs, ?_⟩)), ?_⟩
    repeat (first | (refine MC.run1 tab 1000 rfl rfl (by first | exact True.intro | (simp only [Conds, rng, Int.toNat_natCast, List.length_append, bytesV_length] <;> omega) | (simp [Conds, rng] <;> omega) | (simp only [Conds, rng, wrap_u8, wrap_u16, wrap_u32, wrap_u64] <;> omega)) ?_) | (refine MC.laD true (la_load1 hs rfl (by rfl)) rfl ?_) | (refine MC.part rfl rfl (fun h => absurd h (by first | decide | omega)) (fun _ => ?_)) | (refine MC.part rfl rfl (fun _ => ?_) (fun h => absurd (by first | decide | omega) h)) | (refine MC.cond rfl (fun h => absurd h (by first | decide | omega)) (fun _ => ?_)) | (refine MC.cond rfl (fun _ => ?_) (fun h => absurd (by first | decide | omega) h)))
    refine MC.doesK true (does_append hs rfl rfl (src_at rfl (by first | (intro u hu; simp only [List.mem_cons, List.not_mem_nil, or_false] at hu; rcases hu with rfl | rfl | rfl | rfl | rfl | rfl | rfl | rfl <;> rfl) | (intro u hu; simp only [List.mem_cons, List.not_mem_nil, or_false] at hu; rcases hu with rfl | rfl | rfl | rfl <;> rfl) | (intro u hu; simp only [List.mem_cons, List.not_mem_nil, or_false] at hu; rcases hu with rfl | rfl <;> rfl) | (intro u hu; simp only [List.mem_cons, List.not_mem_nil, or_false] at hu; subst hu; rfl))) (by omega) (by omega)) rfl rfl rfl ?_
    intro va w hs
    refine ⟨(by repeat (first | exact True.intro | refine ⟨At.sat hs, ?_⟩ | refine ⟨Suf.sat hs, ?_⟩)), ?_⟩
    obtain ⟨-, qa, ca, rfl, -⟩ := (hs.pull 4 rfl).sl_len
    repeat (first | (refine MC.run1 tab 1000 rfl rfl (by first | exact True.intro | (simp only [Conds, rng, Int.toNat_natCast, List.length_append, bytesV_length] <;> omega) | (simp [Conds, rng] <;> omega) | (simp only [Conds, rng, wrap_u8, wrap_u16, wrap_u32, wrap_u64] <;> omega)) ?_) | (refine MC.laD true (la_load1 hs rfl (by rfl)) rfl ?_) | (refine MC.part rfl rfl (fun h => absurd h (by first | decide | omega)) (fun _ => ?_)) | (refine MC.part rfl rfl (fun _ => ?_) (fun h => absurd (by first | decide | omega) h)) | (refine MC.cond rfl (fun h => absurd h (by first | decide | omega)) (fun _ => ?_)) | (refine MC.cond rfl (fun _ => ?_) (fun h => absurd (by first | decide | omega) h)))
    refine MC.doesD true (does_store1 hs rfl rfl rfl (by first | decide | (simp; done) | (simp; omega))) rfl rfl rfl rfl ?_; intro _ w hs
    repeat (first | (refine MC.run1 tab 1000 rfl rfl (by first | exact True.intro | (simp only [Conds, rng, Int.toNat_natCast, List.length_append, bytesV_length] <;> omega) | (simp [Conds, rng] <;> omega) | (simp only [Conds, rng, wrap_u8, wrap_u16, wrap_u32, wrap_u64] <;> omega)) ?_) | (refine MC.laD true (la_load1 hs rfl (by rfl)) rfl ?_) | (refine MC.part rfl rfl (fun h => absurd h (by first | decide | omega)) (fun _ => ?_)) | (refine MC.part rfl rfl (fun _ => ?_) (fun h => absurd (by first | decide | omega) h)) | (refine MC.cond rfl (fun h => absurd h (by first | decide | omega)) (fun _ => ?_)) | (refine MC.cond rfl (fun _ => ?_) (fun h => absurd (by first | decide | omega) h)))
    repeat (first | (refine MC.run1 tab 1000 rfl rfl (by first | exact True.intro | (simp only [Conds, rng, Int.toNat_natCast, List.length_append, bytesV_length] <;> omega) | (simp [Conds, rng] <;> omega) | (simp only [Conds, rng, wrap_u8, wrap_u16, wrap_u32, wrap_u64] <;> omega)) ?_) | (refine MC.la true (la_load1 hs rfl (by rfl)) rfl ?_) | (refine MC.part rfl rfl (fun h => absurd h (by first | decide | omega)) (fun _ => ?_)) | (refine MC.part rfl rfl (fun _ => ?_) (fun h => absurd (by first | decide | omega) h)) | (refine MC.cond rfl (fun h => absurd h (by first | decide | omega)) (fun _ => ?_)) | (refine MC.cond rfl (fun _ => ?_) (fun h => absurd (by first | decide | omega) h)))
    refine MC.ret rfl ?_
    refine ⟨rfl, Nw ++ [(.slice qn b.length cn, b)], by simp [bd], rj_shut (vD := .slice qD Dn.length cD) (vN := .slice qa (Nw.length + 1) ca) ?_⟩
    have hs := (hs.tail).pickF 5 [0, 4, 1, 2, 3] rfl rfl
    have h3 := bods_snoc (hs.pickF 5 [0, 1, 2, 3, 4] rfl rfl)
    rw [List.append_assoc] at h3
    have e1 : (Nw ++ [((Value.slice qn b.length cn : Value), b)]).length = Nw.length + 1 := by simp
    rw [e1, hd_app]
    exact h3.pickF 4 [1, 2, 3, 0] rfl rfl
  · have e : addN (szB (bd Dn ++ bd Nw)) b = 190 := by unfold addN; rw [if_neg h3, if_pos (by omega)]
    rw [e, if_neg hfit]
    repeat (first | (refine MC.run1 tab 1000 rfl rfl (by first | exact True.intro | (simp only [Conds, rng, Int.toNat_natCast, List.length_append, bytesV_length] <;> omega) | (simp [Conds, rng] <;> omega) | (simp only [Conds, rng, wrap_u8, wrap_u16, wrap_u32, wrap_u64] <;> omega)) ?_) | (refine MC.la true (la_load1 hs rfl (by rfl)) rfl ?_) | (refine MC.part rfl rfl (fun h => absurd h (by first | decide | omega)) (fun _ => ?_)) | (refine MC.part rfl rfl (fun _ => ?_) (fun h => absurd (by first | decide | omega) h)) | (refine MC.cond rfl (fun h => absurd h (by first | decide | omega)) (fun _ => ?_)) | (refine MC.cond rfl (fun _ => ?_) (fun h => absurd (by first | decide | omega) h)))
    refine MC.ret rfl ?_
    exact ⟨rfl, Nw, rfl, rj_shut hs⟩
end Go.Proofs.YtoigogonccjagaaDoor
