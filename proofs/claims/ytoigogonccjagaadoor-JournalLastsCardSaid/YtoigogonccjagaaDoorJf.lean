/- Journals: Reset, Add, Commit. -/
import Derived.Test.YtoigogonccjagaaDoorJe
set_option linter.unusedVariables false
set_option linter.unusedSimpArgs false
namespace Go.Proofs.YtoigogonccjagaaDoor
open Go Go.Sl Go.Jn
attribute [local irreducible] LooksAt sumB sumF

theorem ten_one {a b c d e f g h i j : Value} (h1 : a.oneCell' = true) (h2 : b.oneCell' = true) (h3 : c.oneCell' = true) (h4 : d.oneCell' = true) (h5 : e.oneCell' = true) (h6 : f.oneCell' = true) (h7 : g.oneCell' = true) (h8 : h.oneCell' = true) (h9 : i.oneCell' = true) (h10 : j.oneCell' = true) :
    ∀ u ∈ [a, b, c, d, e, f, g, h, i, j], u.oneCell' = true := by
  intro u hu
  simp only [List.mem_cons, List.not_mem_nil, or_false] at hu
  rcases hu with rfl | rfl | rfl | rfl | rfl | rfl | rfl | rfl | rfl | rfl <;> assumption
theorem wrs_alive {D : Dev} (h : D.fuse = 0) (f : Nat → Bs) (k : Nat) : ∀ n, (D.wrs f k n).fuse = 0
  | 0 => h
  | n + 1 => by
    show burnt (D.wrs f k n).fuse = 0
    rw [wrs_alive h f k n]; rfl
/-- A journal that was just emptied. -/
def Jl.fresh (p fr count epoch : Nat) : Jl := ⟨p, fr, count, epoch, true, [], 0, [], [], 0⟩
theorem reset_arg {F : List Assn} {G : List Value → List Assn} {r p e epoch : Nat} {a b : Value} {cs : List Value} {w : World} (hs : Sat F w) [hA : At F r (ptr p :: a :: b :: int ((epoch : Nat) : Int) :: cs) 30 G] (he : e ≤ epoch) :
    Ret Tryd.prog 8 [ptr r, int ((e : Nat) : Int)] w fun v w' => v = int 2 ∧ w' = w := by
  have hn := none_spec (r := r) hs
  refine Ret.enter [(true, ptr r), (true, int ((e : Nat) : Int))] _ Tryd.func8 rfl Tryd.ntmps8 rfl ?_
  repeat (first | (refine MC.run1 tab 1000 rfl rfl (by first | exact True.intro | (simp only [Conds, rng, Int.toNat_natCast, List.length_append, bytesV_length] <;> omega) | (simp [Conds, rng] <;> omega) | (simp only [Conds, rng, wrap_u8, wrap_u16, wrap_u32, wrap_u64] <;> omega)) ?_) | (refine MC.la true (la_load1 hs rfl (by rfl)) rfl ?_) | (refine MC.part rfl rfl (fun h => absurd h (by first | decide | omega)) (fun _ => ?_)) | (refine MC.part rfl rfl (fun _ => ?_) (fun h => absurd (by first | decide | omega) h)) | (refine MC.cond rfl (fun h => absurd h (by first | decide | omega)) (fun _ => ?_)) | (refine MC.cond rfl (fun _ => ?_) (fun h => absurd (by first | decide | omega) h)))
  refine MC.does true (does_call rfl (hn)) rfl ?_
  rintro _ w ⟨rfl, rfl⟩
  repeat (first | (refine MC.run1 tab 1000 rfl rfl (by first | exact True.intro | (simp only [Conds, rng, Int.toNat_natCast, List.length_append, bytesV_length] <;> omega) | (simp [Conds, rng] <;> omega) | (simp only [Conds, rng, wrap_u8, wrap_u16, wrap_u32, wrap_u64] <;> omega)) ?_) | (refine MC.la true (la_load1 hs rfl (by rfl)) rfl ?_) | (refine MC.part rfl rfl (fun h => absurd h (by first | decide | omega)) (fun _ => ?_)) | (refine MC.part rfl rfl (fun _ => ?_) (fun h => absurd (by first | decide | omega) h)) | (refine MC.cond rfl (fun h => absurd h (by first | decide | omega)) (fun _ => ?_)) | (refine MC.cond rfl (fun _ => ?_) (fun h => absurd (by first | decide | omega) h)))
  refine MC.ret rfl ?_
  exact ⟨rfl, rfl⟩
set_option maxHeartbeats 2000000 in
theorem reset_spec {F : List Assn} {r p fr count epoch e : Nat} {a b c d f g : Value} {D : Dev} {w : World} (hs : Sat (dev p D :: blk r [ptr p, int ((fr : Nat) : Int), int ((count : Nat) : Int), int ((epoch : Nat) : Int), a, b, c, d, f, g] 30 :: F) w)
    (hD : D.ok) (hO : D.O.length ≤ 50000) (hk : fr + count ≤ D.S.length) (he : epoch < e) (he2 : e ≤ 2147483647) (hf : D.fuse = 0) :
    Ret Tryd.prog 8 [ptr r, int ((e : Nat) : Int)] w fun v w' => v = int 0 ∧ Sat (dev p (D.wrs (fun _ => many 256 0) fr count).sync :: jr r (Jl.fresh p fr count e) :: F) w' := by
  have hn := none_spec (r := r) hs
  have hwp := wipe_spec (r := r) hs hD hO hk
  refine Ret.enter [(true, ptr r), (true, int ((e : Nat) : Int))] _ Tryd.func8 rfl Tryd.ntmps8 rfl ?_
  repeat (first | (refine MC.run1 tab 1000 rfl rfl (by first | exact True.intro | (simp only [Conds, rng, Int.toNat_natCast, List.length_append, bytesV_length] <;> omega) | (simp [Conds, rng] <;> omega) | (simp only [Conds, rng, wrap_u8, wrap_u16, wrap_u32, wrap_u64] <;> omega)) ?_) | (refine MC.la true (la_load1 hs rfl (by rfl)) rfl ?_) | (refine MC.part rfl rfl (fun h => absurd h (by first | decide | omega)) (fun _ => ?_)) | (refine MC.part rfl rfl (fun _ => ?_) (fun h => absurd (by first | decide | omega) h)) | (refine MC.cond rfl (fun h => absurd h (by first | decide | omega)) (fun _ => ?_)) | (refine MC.cond rfl (fun _ => ?_) (fun h => absurd (by first | decide | omega) h)))
  refine MC.does true (does_call rfl (hn)) rfl ?_
  rintro _ w ⟨rfl, rfl⟩
  repeat (first | (refine MC.run1 tab 1000 rfl rfl (by first | exact True.intro | (simp only [Conds, rng, Int.toNat_natCast, List.length_append, bytesV_length] <;> omega) | (simp [Conds, rng] <;> omega) | (simp only [Conds, rng, wrap_u8, wrap_u16, wrap_u32, wrap_u64] <;> omega)) ?_) | (refine MC.la true (la_load1 hs rfl (by rfl)) rfl ?_) | (refine MC.part rfl rfl (fun h => absurd h (by first | decide | omega)) (fun _ => ?_)) | (refine MC.part rfl rfl (fun _ => ?_) (fun h => absurd (by first | decide | omega) h)) | (refine MC.cond rfl (fun h => absurd h (by first | decide | omega)) (fun _ => ?_)) | (refine MC.cond rfl (fun _ => ?_) (fun h => absurd (by first | decide | omega) h)))
  refine MC.does false (does_call rfl (hwp)) rfl ?_
  rintro _ w (⟨_, rfl, hs⟩ | ⟨m, hm, _, hbad, _⟩)
  · repeat (first | (refine MC.run1 tab 1000 rfl rfl (by first | exact True.intro | (simp only [Conds, rng, Int.toNat_natCast, List.length_append, bytesV_length] <;> omega) | (simp [Conds, rng] <;> omega) | (simp only [Conds, rng, wrap_u8, wrap_u16, wrap_u32, wrap_u64] <;> omega)) ?_) | (refine MC.la true (la_load1 hs rfl (by rfl)) rfl ?_) | (refine MC.part rfl rfl (fun h => absurd h (by first | decide | omega)) (fun _ => ?_)) | (refine MC.part rfl rfl (fun _ => ?_) (fun h => absurd (by first | decide | omega) h)) | (refine MC.cond rfl (fun h => absurd h (by first | decide | omega)) (fun _ => ?_)) | (refine MC.cond rfl (fun _ => ?_) (fun h => absurd (by first | decide | omega) h)))
    refine MC.pure (f := true) (po_nnil_nil rfl) rfl ?_
    repeat (first | (refine MC.run1 tab 1000 rfl rfl (by first | exact True.intro | (simp only [Conds, rng, Int.toNat_natCast, List.length_append, bytesV_length] <;> omega) | (simp [Conds, rng] <;> omega) | (simp only [Conds, rng, wrap_u8, wrap_u16, wrap_u32, wrap_u64] <;> omega)) ?_) | (refine MC.la true (la_load1 hs rfl (by rfl)) rfl ?_) | (refine MC.part rfl rfl (fun h => absurd h (by first | decide | omega)) (fun _ => ?_)) | (refine MC.part rfl rfl (fun _ => ?_) (fun h => absurd (by first | decide | omega) h)) | (refine MC.cond rfl (fun h => absurd h (by first | decide | omega)) (fun _ => ?_)) | (refine MC.cond rfl (fun _ => ?_) (fun h => absurd (by first | decide | omega) h)))
    refine MC.draw hs [0,1,2,3,4,5,6,7,8,9,10,11,12,13,14,15,16] (by rfl) ?_; intro w hs
    repeat (first | (refine MC.run1 tab 1000 rfl rfl (by first | exact True.intro | (simp only [Conds, rng, Int.toNat_natCast, List.length_append, bytesV_length] <;> omega) | (simp [Conds, rng] <;> omega) | (simp only [Conds, rng, wrap_u8, wrap_u16, wrap_u32, wrap_u64] <;> omega)) ?_) | (refine MC.laD true (la_load1 hs rfl (by rfl)) rfl ?_) | (refine MC.part rfl rfl (fun h => absurd h (by first | decide | omega)) (fun _ => ?_)) | (refine MC.part rfl rfl (fun _ => ?_) (fun h => absurd (by first | decide | omega) h)) | (refine MC.cond rfl (fun h => absurd h (by first | decide | omega)) (fun _ => ?_)) | (refine MC.cond rfl (fun _ => ?_) (fun h => absurd (by first | decide | omega) h)))
    refine MC.pure (f := true) (po_build (ls := [(0, [ptr p]), (1, [int ((fr : Nat) : Int)]), (2, [int ((count : Nat) : Int)]), (3, [int ((e : Nat) : Int)]), (4, [bool true])]) (out := [ptr p, int ((fr : Nat) : Int), int ((count : Nat) : Int), int ((e : Nat) : Int), bool true, .slice none 0 0, int 0, .slice none 0 0, .slice none 0 0, int 0]) rfl rfl ⟨⟨_, rfl, by simp⟩, ⟨_, rfl, by simp⟩, ⟨_, rfl, by simp⟩, ⟨_, rfl, by simp⟩, ⟨_, rfl, by simp⟩, trivial⟩ rfl) rfl ?_
    repeat (first | (refine MC.run1 tab 1000 rfl rfl (by first | exact True.intro | (simp only [Conds, rng, Int.toNat_natCast, List.length_append, bytesV_length] <;> omega) | (simp [Conds, rng] <;> omega) | (simp only [Conds, rng, wrap_u8, wrap_u16, wrap_u32, wrap_u64] <;> omega)) ?_) | (refine MC.laD true (la_load1 hs rfl (by rfl)) rfl ?_) | (refine MC.part rfl rfl (fun h => absurd h (by first | decide | omega)) (fun _ => ?_)) | (refine MC.part rfl rfl (fun _ => ?_) (fun h => absurd (by first | decide | omega) h)) | (refine MC.cond rfl (fun h => absurd h (by first | decide | omega)) (fun _ => ?_)) | (refine MC.cond rfl (fun _ => ?_) (fun h => absurd (by first | decide | omega) h)))
    refine MC.doesD true (does_store (vs := [ptr p, int ((fr : Nat) : Int), int ((count : Nat) : Int), int ((e : Nat) : Int), bool true, .slice none 0 0, int 0, .slice none 0 0, .slice none 0 0, int 0]) hs rfl rfl rfl rfl (ten_one rfl rfl rfl rfl rfl rfl rfl rfl rfl rfl) (by simp)) rfl rfl rfl rfl ?_; intro _ w hs
    have hs : Sat (dev p (D.wrs (fun _ => many 256 0) fr count).sync :: blk r [ptr p, int ((fr : Nat) : Int), int ((count : Nat) : Int), int ((e : Nat) : Int), bool true, .slice none 0 0, int 0, .slice none 0 0, .slice none 0 0, int 0] 30 :: F) w := hs
    repeat (first | (refine MC.run1 tab 1000 rfl rfl (by first | exact True.intro | (simp only [Conds, rng, Int.toNat_natCast, List.length_append, bytesV_length] <;> omega) | (simp [Conds, rng] <;> omega) | (simp only [Conds, rng, wrap_u8, wrap_u16, wrap_u32, wrap_u64] <;> omega)) ?_) | (refine MC.laD true (la_load1 hs rfl (by rfl)) rfl ?_) | (refine MC.part rfl rfl (fun h => absurd h (by first | decide | omega)) (fun _ => ?_)) | (refine MC.part rfl rfl (fun _ => ?_) (fun h => absurd (by first | decide | omega) h)) | (refine MC.cond rfl (fun h => absurd h (by first | decide | omega)) (fun _ => ?_)) | (refine MC.cond rfl (fun _ => ?_) (fun h => absurd (by first | decide | omega) h)))
    repeat (first | (refine MC.run1 tab 1000 rfl rfl (by first | exact True.intro | (simp only [Conds, rng, Int.toNat_natCast, List.length_append, bytesV_length] <;> omega) | (simp [Conds, rng] <;> omega) | (simp only [Conds, rng, wrap_u8, wrap_u16, wrap_u32, wrap_u64] <;> omega)) ?_) | (refine MC.la true (la_load1 hs rfl (by rfl)) rfl ?_) | (refine MC.part rfl rfl (fun h => absurd h (by first | decide | omega)) (fun _ => ?_)) | (refine MC.part rfl rfl (fun _ => ?_) (fun h => absurd (by first | decide | omega) h)) | (refine MC.cond rfl (fun h => absurd h (by first | decide | omega)) (fun _ => ?_)) | (refine MC.cond rfl (fun _ => ?_) (fun h => absurd (by first | decide | omega) h)))
    refine MC.ret rfl ?_
    refine ⟨rfl, ?_⟩
    have h1 := (((bods_nil (t := 5) hs).sl_nil 22 1).sl_nil 22 1).sl_nil 5 1
    exact jr_shut2 (J := Jl.fresh p fr count e) (h1.pickF 6 [4, 5, 0, 1, 2, 3] rfl rfl)
  · rw [wrs_alive hf] at hbad
    exact absurd hbad (by decide)
/-- What Add says. -/
def addE (J : Jl) (b : Bs) : Int := if J.opn = false then 250 else if 65535 < b.length then 3 else if J.count * 256 < J.B.length + (14 + b.length) then 190 else 0
theorem add_state {F : List Assn} {G : List Value → List Assn} {r p : Nat} {a b c : Value} {cs : List Value} {vb : Value} {w : World} (hs : Sat F w) [hA : At F r (ptr p :: a :: b :: c :: bool false :: cs) 30 G] :
    Ret Tryd.prog 9 [ptr r, vb] w fun v w' => v = int 250 ∧ w' = w := by
  have hn := none_spec (r := r) hs
  refine Ret.enter [(true, ptr r), (true, vb)] _ Tryd.func9 rfl Tryd.ntmps9 rfl ?_
  repeat (first | (refine MC.run1 tab 1000 rfl rfl (by first | exact True.intro | (simp only [Conds, rng, Int.toNat_natCast, List.length_append, bytesV_length] <;> omega) | (simp [Conds, rng] <;> omega) | (simp only [Conds, rng, wrap_u8, wrap_u16, wrap_u32, wrap_u64] <;> omega)) ?_) | (refine MC.la true (la_load1 hs rfl (by rfl)) rfl ?_) | (refine MC.part rfl rfl (fun h => absurd h (by first | decide | omega)) (fun _ => ?_)) | (refine MC.part rfl rfl (fun _ => ?_) (fun h => absurd (by first | decide | omega) h)) | (refine MC.cond rfl (fun h => absurd h (by first | decide | omega)) (fun _ => ?_)) | (refine MC.cond rfl (fun _ => ?_) (fun h => absurd (by first | decide | omega) h)))
  refine MC.does true (does_call rfl (hn)) rfl ?_
  rintro _ w ⟨rfl, rfl⟩
  repeat (first | (refine MC.run1 tab 1000 rfl rfl (by first | exact True.intro | (simp only [Conds, rng, Int.toNat_natCast, List.length_append, bytesV_length] <;> omega) | (simp [Conds, rng] <;> omega) | (simp only [Conds, rng, wrap_u8, wrap_u16, wrap_u32, wrap_u64] <;> omega)) ?_) | (refine MC.la true (la_load1 hs rfl (by rfl)) rfl ?_) | (refine MC.part rfl rfl (fun h => absurd h (by first | decide | omega)) (fun _ => ?_)) | (refine MC.part rfl rfl (fun _ => ?_) (fun h => absurd (by first | decide | omega) h)) | (refine MC.cond rfl (fun h => absurd h (by first | decide | omega)) (fun _ => ?_)) | (refine MC.cond rfl (fun _ => ?_) (fun h => absurd (by first | decide | omega) h)))
  refine MC.ret rfl ?_
  exact ⟨rfl, rfl⟩
set_option maxHeartbeats 4000000 in
theorem add_spec {F : List Assn} {r : Nat} {J : Jl} {vb : Value} {b : Bs} {w : World} (hs : Sat (jr r J :: F) w) (hx : RdS F 1 vb b.length (bytesV b)) (hop : J.opn = true) (hcnt : J.count ≤ 8192) (hB : J.B.length ≤ J.count * 256) (hep : J.epoch ≤ 2147483647) (hn1 : J.recs.length + J.adds.length ≤ 1000000) (hbl : b.length ≤ 9223372036854775807) :
    Ret Tryd.prog 9 [ptr r, vb] w fun v w' => v = int (addE J b) ∧ if addE J b = 0 then ∃ vn, Sat (jr r { J with B := J.B ++ recB J.epoch (J.recs.length + J.adds.length + 1) b, adds := J.adds ++ [(vn, b)] } :: F) w' else Sat (jr r J :: F) w' := by
  have hs0 := hs
  obtain ⟨vB, vR, vA, hs⟩ := jr_open hs
  obtain ⟨_, qB, cB, rfl, _⟩ := (hs.pull 1 rfl).sl_len
  obtain ⟨_, qR, cR, rfl, _⟩ := (hs.pull 2 rfl).sl_len
  obtain ⟨_, qA, cA, rfl, _⟩ := (hs.pull 3 rfl).sl_len
  obtain ⟨q, c, rfl, hc, _⟩ := hx.shape
  have hn := none_spec (r := r) hs
  obtain ⟨p, fr, count, epoch, opn, B, used, recs, adds, front⟩ := J
  replace hop : opn = true := hop
  replace hcnt : count ≤ 8192 := hcnt
  replace hB : B.length ≤ count * 256 := hB
  replace hep : epoch ≤ 2147483647 := hep
  replace hn1 : recs.length + adds.length ≤ 1000000 := hn1
  subst hop
  have hae : addE ⟨p, fr, count, epoch, true, B, used, recs, adds, front⟩ b = if 65535 < b.length then 3 else if count * 256 < B.length + (14 + b.length) then 190 else 0 := rfl
  have hsO : Sat (blk r [ptr p, int ((fr : Nat) : Int), int ((count : Nat) : Int), int ((epoch : Nat) : Int), bool true, .slice qB B.length cB, int ((used : Nat) : Int), .slice qR recs.length cR, .slice qA adds.length cA, int ((front : Nat) : Int)] 30 :: sl (.slice qB B.length cB) 5 1 B.length (bytesV B) :: sl (.slice qR recs.length cR) 22 1 recs.length (hd recs) :: sl (.slice qA adds.length cA) 22 1 adds.length (hd adds) :: bods 5 (recs ++ adds) :: F) w := hs
  clear hs
  have hs := hsO
  clear hsO
  refine Ret.enter [(true, ptr r), (true, .slice q b.length c)] _ Tryd.func9 rfl Tryd.ntmps9 rfl ?_
  repeat (first | (refine MC.run1 tab 1000 rfl rfl (by first | exact True.intro | (simp only [Conds, rng, Int.toNat_natCast, List.length_append, bytesV_length] <;> omega) | (simp [Conds, rng] <;> omega) | (simp only [Conds, rng, wrap_u8, wrap_u16, wrap_u32, wrap_u64] <;> omega)) ?_) | (refine MC.la true (la_load1 hs rfl (by rfl)) rfl ?_) | (refine MC.part rfl rfl (fun h => absurd h (by first | decide | omega)) (fun _ => ?_)) | (refine MC.part rfl rfl (fun _ => ?_) (fun h => absurd (by first | decide | omega) h)) | (refine MC.cond rfl (fun h => absurd h (by first | decide | omega)) (fun _ => ?_)) | (refine MC.cond rfl (fun _ => ?_) (fun h => absurd (by first | decide | omega) h)))
  refine MC.does true (does_call rfl (hn)) rfl ?_
  rintro _ w ⟨rfl, rfl⟩
  by_cases hbig : 65535 < b.length
  · rw [if_pos hbig] at hae
    repeat (first | (refine MC.run1 tab 1000 rfl rfl (by first | exact True.intro | (simp only [Conds, rng, Int.toNat_natCast, List.length_append, bytesV_length] <;> omega) | (simp [Conds, rng] <;> omega) | (simp only [Conds, rng, wrap_u8, wrap_u16, wrap_u32, wrap_u64] <;> omega)) ?_) | (refine MC.la true (la_load1 hs rfl (by rfl)) rfl ?_) | (refine MC.part rfl rfl (fun h => absurd h (by first | decide | omega)) (fun _ => ?_)) | (refine MC.part rfl rfl (fun _ => ?_) (fun h => absurd (by first | decide | omega) h)) | (refine MC.cond rfl (fun h => absurd h (by first | decide | omega)) (fun _ => ?_)) | (refine MC.cond rfl (fun _ => ?_) (fun h => absurd (by first | decide | omega) h)))
    refine MC.ret rfl ?_
    rw [hae, if_neg (by decide)]
    exact ⟨rfl, hs0⟩
  rw [if_neg hbig] at hae
  repeat (first | (refine MC.run1 tab 1000 rfl rfl (by first | exact True.intro | (simp only [Conds, rng, Int.toNat_natCast, List.length_append, bytesV_length] <;> omega) | (simp [Conds, rng] <;> omega) | (simp only [Conds, rng, wrap_u8, wrap_u16, wrap_u32, wrap_u64] <;> omega)) ?_) | (refine MC.la true (la_load1 hs rfl (by rfl)) rfl ?_) | (refine MC.part rfl rfl (fun h => absurd h (by first | decide | omega)) (fun _ => ?_)) | (refine MC.part rfl rfl (fun _ => ?_) (fun h => absurd (by first | decide | omega) h)) | (refine MC.cond rfl (fun h => absurd h (by first | decide | omega)) (fun _ => ?_)) | (refine MC.cond rfl (fun _ => ?_) (fun h => absurd (by first | decide | omega) h)))
  refine MC.draw hs [0,1,2,3,4,5,6,7,8,9,10,11,12,13,14,15] (by rfl) ?_; intro w hs
  repeat (first | (refine MC.run1 tab 1000 rfl rfl (by first | exact True.intro | (simp only [Conds, rng, Int.toNat_natCast, List.length_append, bytesV_length] <;> omega) | (simp [Conds, rng] <;> omega) | (simp only [Conds, rng, wrap_u8, wrap_u16, wrap_u32, wrap_u64] <;> omega)) ?_) | (refine MC.laD true (la_load1 hs rfl (by rfl)) rfl ?_) | (refine MC.part rfl rfl (fun h => absurd h (by first | decide | omega)) (fun _ => ?_)) | (refine MC.part rfl rfl (fun _ => ?_) (fun h => absurd (by first | decide | omega) h)) | (refine MC.cond rfl (fun h => absurd h (by first | decide | omega)) (fun _ => ?_)) | (refine MC.cond rfl (fun _ => ?_) (fun h => absurd (by first | decide | omega) h)))
  by_cases hfull : count * 256 < B.length + (14 + b.length)
  · rw [if_pos hfull] at hae
    repeat (first | (refine MC.run1 tab 1000 rfl rfl (by first | exact True.intro | (simp only [Conds, rng, Int.toNat_natCast, List.length_append, bytesV_length] <;> omega) | (simp [Conds, rng] <;> omega) | (simp only [Conds, rng, wrap_u8, wrap_u16, wrap_u32, wrap_u64] <;> omega)) ?_) | (refine MC.la true (la_load1 hs rfl (by rfl)) rfl ?_) | (refine MC.part rfl rfl (fun h => absurd h (by first | decide | omega)) (fun _ => ?_)) | (refine MC.part rfl rfl (fun _ => ?_) (fun h => absurd (by first | decide | omega) h)) | (refine MC.cond rfl (fun h => absurd h (by first | decide | omega)) (fun _ => ?_)) | (refine MC.cond rfl (fun _ => ?_) (fun h => absurd (by first | decide | omega) h)))
    refine MC.ret rfl ?_
    rw [hae, if_neg (by decide)]
    exact ⟨rfl, jr_shut (J := ⟨p, fr, count, epoch, true, B, used, recs, adds, front⟩) hs⟩
  rw [if_neg hfull] at hae
  repeat (first | (refine MC.run1 tab 1000 rfl rfl (by first | exact True.intro | (simp only [Conds, rng, Int.toNat_natCast, List.length_append, bytesV_length] <;> omega) | (simp [Conds, rng] <;> omega) | (simp only [Conds, rng, wrap_u8, wrap_u16, wrap_u32, wrap_u64] <;> omega)) ?_) | (refine MC.la true (la_load1 hs rfl (by rfl)) rfl ?_) | (refine MC.part rfl rfl (fun h => absurd h (by first | decide | omega)) (fun _ => ?_)) | (refine MC.part rfl rfl (fun _ => ?_) (fun h => absurd (by first | decide | omega) h)) | (refine MC.cond rfl (fun h => absurd h (by first | decide | omega)) (fun _ => ?_)) | (refine MC.cond rfl (fun _ => ?_) (fun h => absurd (by first | decide | omega) h)))
  refine MC.draw hs [0,1,2,3,4,5,6,7,8,9,10,11,12,13,14,15,16,17,18,19,20,21,22,23,24,25,26] (by rfl) ?_; intro w hs
  have hrec := record_spec (e := epoch) (n := recs.length + adds.length + 1) hs (RdS.up hx) (by omega) hep (by omega)
  repeat (first | (refine MC.run1 tab 1000 rfl rfl (by first | exact True.intro | (simp only [Conds, rng, Int.toNat_natCast, List.length_append, bytesV_length] <;> omega) | (simp [Conds, rng] <;> omega) | (simp only [Conds, rng, wrap_u8, wrap_u16, wrap_u32, wrap_u64] <;> omega)) ?_) | (refine MC.laD true (la_load1 hs rfl (by rfl)) rfl ?_) | (refine MC.part rfl rfl (fun h => absurd h (by first | decide | omega)) (fun _ => ?_)) | (refine MC.part rfl rfl (fun _ => ?_) (fun h => absurd (by first | decide | omega) h)) | (refine MC.cond rfl (fun h => absurd h (by first | decide | omega)) (fun _ => ?_)) | (refine MC.cond rfl (fun _ => ?_) (fun h => absurd (by first | decide | omega) h)))
  refine MC.doesK true (does_call rfl hrec) rfl rfl rfl ?_
  intro v1 w hs
  refine ⟨(by repeat (first | exact True.intro | refine ⟨At.sat hs, ?_⟩ | refine ⟨Suf.sat hs, ?_⟩)), ?_⟩
  have hrl := recB_length epoch (recs.length + adds.length + 1) b
  obtain ⟨R, hR⟩ : ∃ R, recB epoch (recs.length + adds.length + 1) b = R := ⟨_, rfl⟩
  rw [hR] at hs hrl
  repeat (first | (refine MC.run1 tab 1000 rfl rfl (by first | exact True.intro | (simp only [Conds, rng, Int.toNat_natCast, List.length_append, bytesV_length] <;> omega) | (simp [Conds, rng] <;> omega) | (simp only [Conds, rng, wrap_u8, wrap_u16, wrap_u32, wrap_u64] <;> omega)) ?_) | (refine MC.laD true (la_load1 hs rfl (by rfl)) rfl ?_) | (refine MC.part rfl rfl (fun h => absurd h (by first | decide | omega)) (fun _ => ?_)) | (refine MC.part rfl rfl (fun _ => ?_) (fun h => absurd (by first | decide | omega) h)) | (refine MC.cond rfl (fun h => absurd h (by first | decide | omega)) (fun _ => ?_)) | (refine MC.cond rfl (fun _ => ?_) (fun h => absurd (by first | decide | omega) h)))
  refine MC.doesK true (does_append hs rfl rfl (RdS.src (RdS.of_sl hs) (bytesV_one R)) (by omega) (by omega)) rfl rfl rfl ?_
  intro vB' w hs
  refine ⟨(by repeat (first | exact True.intro | refine ⟨At.sat hs, ?_⟩ | refine ⟨Suf.sat hs, ?_⟩)), ?_⟩
  have hs := hs.tail
  obtain ⟨_, qB', cB', rfl, _⟩ := (hs.pull 1 rfl).sl_len
  repeat (first | (refine MC.run1 tab 1000 rfl rfl (by first | exact True.intro | (simp only [Conds, rng, Int.toNat_natCast, List.length_append, bytesV_length] <;> omega) | (simp [Conds, rng] <;> omega) | (simp only [Conds, rng, wrap_u8, wrap_u16, wrap_u32, wrap_u64] <;> omega)) ?_) | (refine MC.laD true (la_load1 hs rfl (by rfl)) rfl ?_) | (refine MC.part rfl rfl (fun h => absurd h (by first | decide | omega)) (fun _ => ?_)) | (refine MC.part rfl rfl (fun _ => ?_) (fun h => absurd (by first | decide | omega) h)) | (refine MC.cond rfl (fun h => absurd h (by first | decide | omega)) (fun _ => ?_)) | (refine MC.cond rfl (fun _ => ?_) (fun h => absurd (by first | decide | omega) h)))
  refine MC.doesD true (does_store1 hs rfl rfl rfl (by first | decide | (simp; done) | (simp; omega))) rfl rfl rfl rfl ?_; intro _ w hs
  have hs : Sat (blk r [ptr p, int ((fr : Nat) : Int), int ((count : Nat) : Int), int ((epoch : Nat) : Int), bool true, .slice qB' (B.length + R.length) cB', int ((used : Nat) : Int), .slice qR recs.length cR, .slice qA adds.length cA, int ((front : Nat) : Int)] 30 :: sl (.slice qB' (B.length + R.length) cB') 5 1 (B.length + R.length) (bytesV B ++ bytesV R) :: sl (.slice qR recs.length cR) 22 1 recs.length (hd recs) :: sl (.slice qA adds.length cA) 22 1 adds.length (hd adds) :: bods 5 (recs ++ adds) :: F) w := hs
  repeat (first | (refine MC.run1 tab 1000 rfl rfl (by first | exact True.intro | (simp only [Conds, rng, Int.toNat_natCast, List.length_append, bytesV_length] <;> omega) | (simp [Conds, rng] <;> omega) | (simp only [Conds, rng, wrap_u8, wrap_u16, wrap_u32, wrap_u64] <;> omega)) ?_) | (refine MC.laD true (la_load1 hs rfl (by rfl)) rfl ?_) | (refine MC.part rfl rfl (fun h => absurd h (by first | decide | omega)) (fun _ => ?_)) | (refine MC.part rfl rfl (fun _ => ?_) (fun h => absurd (by first | decide | omega) h)) | (refine MC.cond rfl (fun h => absurd h (by first | decide | omega)) (fun _ => ?_)) | (refine MC.cond rfl (fun _ => ?_) (fun h => absurd (by first | decide | omega) h)))
  repeat (first | (refine MC.run1 tab 1000 rfl rfl (by first | exact True.intro | (simp only [Conds, rng, Int.toNat_natCast, List.length_append, bytesV_length] <;> omega) | (simp [Conds, rng] <;> omega) | (simp only [Conds, rng, wrap_u8, wrap_u16, wrap_u32, wrap_u64] <;> omega)) ?_) | (refine MC.la true (la_load1 hs rfl (by rfl)) rfl ?_) | (refine MC.part rfl rfl (fun h => absurd h (by first | decide | omega)) (fun _ => ?_)) | (refine MC.part rfl rfl (fun _ => ?_) (fun h => absurd (by first | decide | omega) h)) | (refine MC.cond rfl (fun h => absurd h (by first | decide | omega)) (fun _ => ?_)) | (refine MC.cond rfl (fun _ => ?_) (fun h => absurd (by first | decide | omega) h)))
  refine MC.draw hs [0,1,2,3,4,6,5,7,8,9,10,11,12] (by rfl) ?_; intro w hs
  repeat (first | (refine MC.run1 tab 1000 rfl rfl (by first | exact True.intro | (simp only [Conds, rng, Int.toNat_natCast, List.length_append, bytesV_length] <;> omega) | (simp [Conds, rng] <;> omega) | (simp only [Conds, rng, wrap_u8, wrap_u16, wrap_u32, wrap_u64] <;> omega)) ?_) | (refine MC.laD true (la_load1 hs rfl (by rfl)) rfl ?_) | (refine MC.part rfl rfl (fun h => absurd h (by first | decide | omega)) (fun _ => ?_)) | (refine MC.part rfl rfl (fun _ => ?_) (fun h => absurd (by first | decide | omega) h)) | (refine MC.cond rfl (fun h => absurd h (by first | decide | omega)) (fun _ => ?_)) | (refine MC.cond rfl (fun _ => ?_) (fun h => absurd (by first | decide | omega) h)))
  refine MC.doesK true (does_buildSlice0 hs) rfl rfl rfl ?_
  rintro _ w ⟨b1, rfl, hs⟩
  refine ⟨(by repeat (first | exact True.intro | refine ⟨At.sat hs, ?_⟩ | refine ⟨Suf.sat hs, ?_⟩)), ?_⟩
  have hs : Sat (sl (.slice (some ⟨b1, 0, none⟩) 0 0) 5 1 0 [] :: blk r [ptr p, int ((fr : Nat) : Int), int ((count : Nat) : Int), int ((epoch : Nat) : Int), bool true, .slice qB' (B.length + R.length) cB', int ((used : Nat) : Int), .slice qR recs.length cR, .slice qA adds.length cA, int ((front : Nat) : Int)] 30 :: sl (.slice qB' (B.length + R.length) cB') 5 1 (B.length + R.length) (bytesV B ++ bytesV R) :: sl (.slice qR recs.length cR) 22 1 recs.length (hd recs) :: sl (.slice qA adds.length cA) 22 1 adds.length (hd adds) :: bods 5 (recs ++ adds) :: F) w := Sat.sl_mk (xs := []) (spare := []) hs (Nat.le_refl _) rfl rfl
  repeat (first | (refine MC.run1 tab 1000 rfl rfl (by first | exact True.intro | (simp only [Conds, rng, Int.toNat_natCast, List.length_append, bytesV_length] <;> omega) | (simp [Conds, rng] <;> omega) | (simp only [Conds, rng, wrap_u8, wrap_u16, wrap_u32, wrap_u64] <;> omega)) ?_) | (refine MC.laD true (la_load1 hs rfl (by rfl)) rfl ?_) | (refine MC.part rfl rfl (fun h => absurd h (by first | decide | omega)) (fun _ => ?_)) | (refine MC.part rfl rfl (fun _ => ?_) (fun h => absurd (by first | decide | omega) h)) | (refine MC.cond rfl (fun h => absurd h (by first | decide | omega)) (fun _ => ?_)) | (refine MC.cond rfl (fun _ => ?_) (fun h => absurd (by first | decide | omega) h)))
  refine MC.doesK true (does_append hs rfl rfl (RdS.src hx (bytesV_one b)) (by omega) (by omega)) rfl rfl rfl ?_
  intro vn w hs
  refine ⟨(by repeat (first | exact True.intro | refine ⟨At.sat hs, ?_⟩ | refine ⟨Suf.sat hs, ?_⟩)), ?_⟩
  rw [Nat.zero_add, List.nil_append] at hs
  obtain ⟨_, qn, cn, rfl, _⟩ := hs.sl_len
  repeat (first | (refine MC.run1 tab 1000 rfl rfl (by first | exact True.intro | (simp only [Conds, rng, Int.toNat_natCast, List.length_append, bytesV_length] <;> omega) | (simp [Conds, rng] <;> omega) | (simp only [Conds, rng, wrap_u8, wrap_u16, wrap_u32, wrap_u64] <;> omega)) ?_) | (refine MC.laD true (la_load1 hs rfl (by rfl)) rfl ?_) | (refine MC.part rfl rfl (fun h => absurd h (by first | decide | omega)) (fun _ => ?_)) | (refine MC.part rfl rfl (fun _ => ?_) (fun h => absurd (by first | decide | omega) h)) | (refine MC.cond rfl (fun h => absurd h (by first | decide | omega)) (fun _ => ?_)) | (refine MC.cond rfl (fun _ => ?_) (fun h => absurd (by first | decide | omega) h)))
  refine MC.doesK true (does_buildL hs rfl rfl rfl (by first | (intro u hu; simp only [List.mem_cons, List.not_mem_nil, or_false] at hu; rcases hu with rfl | rfl | rfl | rfl | rfl | rfl | rfl | rfl <;> rfl) | (intro u hu; simp only [List.mem_cons, List.not_mem_nil, or_false] at hu; rcases hu with rfl | rfl | rfl | rfl <;> rfl) | (intro u hu; simp only [List.mem_cons, List.not_mem_nil, or_false] at hu; rcases hu with rfl | rfl <;> rfl) | (intro u hu; simp only [List.mem_cons, List.not_mem_nil, or_false] at hu; subst hu; rfl)) rfl) rfl rfl rfl ?_; rintro _ w ⟨b2, rfl, hs⟩; refine ⟨(by repeat (first | exact True.intro | refine ⟨At.sat hs, ?_⟩ | refine ⟨Suf.sat hs, ?_⟩)), ?_⟩
  repeat (first | (refine MC.run1 tab 1000 rfl rfl (by first | exact True.intro | (simp only [Conds, rng, Int.toNat_natCast, List.length_append, bytesV_length] <;> omega) | (simp [Conds, rng] <;> omega) | (simp only [Conds, rng, wrap_u8, wrap_u16, wrap_u32, wrap_u64] <;> omega)) ?_) | (refine MC.laD true (la_load1 hs rfl (by rfl)) rfl ?_) | (refine MC.part rfl rfl (fun h => absurd h (by first | decide | omega)) (fun _ => ?_)) | (refine MC.part rfl rfl (fun _ => ?_) (fun h => absurd (by first | decide | omega) h)) | (refine MC.cond rfl (fun h => absurd h (by first | decide | omega)) (fun _ => ?_)) | (refine MC.cond rfl (fun _ => ?_) (fun h => absurd (by first | decide | omega) h)))
  refine MC.doesK true (does_append hs rfl rfl (src_at rfl (by first | (intro u hu; simp only [List.mem_cons, List.not_mem_nil, or_false] at hu; rcases hu with rfl | rfl | rfl | rfl | rfl | rfl | rfl | rfl <;> rfl) | (intro u hu; simp only [List.mem_cons, List.not_mem_nil, or_false] at hu; rcases hu with rfl | rfl | rfl | rfl <;> rfl) | (intro u hu; simp only [List.mem_cons, List.not_mem_nil, or_false] at hu; rcases hu with rfl | rfl <;> rfl) | (intro u hu; simp only [List.mem_cons, List.not_mem_nil, or_false] at hu; subst hu; rfl))) (by omega) (by omega)) rfl rfl rfl ?_
  intro va w hs
  refine ⟨(by repeat (first | exact True.intro | refine ⟨At.sat hs, ?_⟩ | refine ⟨Suf.sat hs, ?_⟩)), ?_⟩
  obtain ⟨_, qa, ca, rfl, _⟩ := (hs.pull 5 rfl).sl_len
  repeat (first | (refine MC.run1 tab 1000 rfl rfl (by first | exact True.intro | (simp only [Conds, rng, Int.toNat_natCast, List.length_append, bytesV_length] <;> omega) | (simp [Conds, rng] <;> omega) | (simp only [Conds, rng, wrap_u8, wrap_u16, wrap_u32, wrap_u64] <;> omega)) ?_) | (refine MC.laD true (la_load1 hs rfl (by rfl)) rfl ?_) | (refine MC.part rfl rfl (fun h => absurd h (by first | decide | omega)) (fun _ => ?_)) | (refine MC.part rfl rfl (fun _ => ?_) (fun h => absurd (by first | decide | omega) h)) | (refine MC.cond rfl (fun h => absurd h (by first | decide | omega)) (fun _ => ?_)) | (refine MC.cond rfl (fun _ => ?_) (fun h => absurd (by first | decide | omega) h)))
  refine MC.doesD true (does_store1 hs rfl rfl rfl (by first | decide | (simp; done) | (simp; omega))) rfl rfl rfl rfl ?_; intro _ w hs
  repeat (first | (refine MC.run1 tab 1000 rfl rfl (by first | exact True.intro | (simp only [Conds, rng, Int.toNat_natCast, List.length_append, bytesV_length] <;> omega) | (simp [Conds, rng] <;> omega) | (simp only [Conds, rng, wrap_u8, wrap_u16, wrap_u32, wrap_u64] <;> omega)) ?_) | (refine MC.laD true (la_load1 hs rfl (by rfl)) rfl ?_) | (refine MC.part rfl rfl (fun h => absurd h (by first | decide | omega)) (fun _ => ?_)) | (refine MC.part rfl rfl (fun _ => ?_) (fun h => absurd (by first | decide | omega) h)) | (refine MC.cond rfl (fun h => absurd h (by first | decide | omega)) (fun _ => ?_)) | (refine MC.cond rfl (fun _ => ?_) (fun h => absurd (by first | decide | omega) h)))
  repeat (first | (refine MC.run1 tab 1000 rfl rfl (by first | exact True.intro | (simp only [Conds, rng, Int.toNat_natCast, List.length_append, bytesV_length] <;> omega) | (simp [Conds, rng] <;> omega) | (simp only [Conds, rng, wrap_u8, wrap_u16, wrap_u32, wrap_u64] <;> omega)) ?_) | (refine MC.la true (la_load1 hs rfl (by rfl)) rfl ?_) | (refine MC.part rfl rfl (fun h => absurd h (by first | decide | omega)) (fun _ => ?_)) | (refine MC.part rfl rfl (fun _ => ?_) (fun h => absurd (by first | decide | omega) h)) | (refine MC.cond rfl (fun h => absurd h (by first | decide | omega)) (fun _ => ?_)) | (refine MC.cond rfl (fun _ => ?_) (fun h => absurd (by first | decide | omega) h)))
  refine MC.ret rfl ?_
  rw [hae, if_pos rfl]
  refine ⟨rfl, .slice qn b.length cn, ?_⟩
  rw [hR]
  have h2 := hs.tail.pickF 6 [1, 2, 3, 4, 0, 5] rfl rfl
  have h3 : Sat (sl (.slice qn b.length cn) 5 1 b.length (bytesV b) :: bods 5 (recs ++ adds) :: blk r [ptr p, int ((fr : Nat) : Int), int ((count : Nat) : Int), int ((epoch : Nat) : Int), bool true, .slice qB' (B.length + R.length) cB', int ((used : Nat) : Int), .slice qR recs.length cR, .slice qa (adds.length + 1) ca, int ((front : Nat) : Int)] 30 :: sl (.slice qB' (B.length + R.length) cB') 5 1 (B.length + R.length) (bytesV B ++ bytesV R) :: sl (.slice qR recs.length cR) 22 1 recs.length (hd recs) :: sl (.slice qa (adds.length + 1) ca) 22 1 (adds.length + 1) (hd adds ++ [.slice qn b.length cn]) :: F) w := hs.tail.pickF 6 [0, 5, 1, 2, 3, 4] rfl rfl
  have h4 := (bods_snoc h3).pickF 5 [1, 2, 3, 4, 0] rfl rfl
  refine jr_shut (J := ⟨p, fr, count, epoch, true, B ++ R, used, recs, adds ++ [(.slice qn b.length cn, b)], front⟩) (vB := .slice qB' (B.length + R.length) cB') (vR := .slice qR recs.length cR) (vA := .slice qa (adds.length + 1) ca) ?_
  show Sat (blk r [ptr p, int ((fr : Nat) : Int), int ((count : Nat) : Int), int ((epoch : Nat) : Int), bool true, .slice qB' (B.length + R.length) cB', int ((used : Nat) : Int), .slice qR recs.length cR, .slice qa (adds.length + 1) ca, int ((front : Nat) : Int)] 30 :: sl (.slice qB' (B.length + R.length) cB') 5 1 (B ++ R).length (bytesV (B ++ R)) :: sl (.slice qR recs.length cR) 22 1 recs.length (hd recs) :: sl (.slice qa (adds.length + 1) ca) 22 1 (adds ++ [((.slice qn b.length cn : Value), b)]).length (hd (adds ++ [((.slice qn b.length cn : Value), b)])) :: bods 5 (recs ++ (adds ++ [((.slice qn b.length cn : Value), b)])) :: F) w
  have e1 : (B ++ R).length = B.length + R.length := List.length_append
  have e2 : (adds ++ [((.slice qn b.length cn : Value), b)]).length = adds.length + 1 := by simp
  rw [e1, e2, bytesV_append, hd_app, ← List.append_assoc]
  exact h4
end Go.Proofs.YtoigogonccjagaaDoor
