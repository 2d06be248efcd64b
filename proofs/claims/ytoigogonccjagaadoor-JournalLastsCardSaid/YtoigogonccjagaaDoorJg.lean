/- Journals: Commit. -/
import Derived.Test.YtoigogonccjagaaDoorJf
set_option linter.unusedVariables false
set_option linter.unusedSimpArgs false
namespace Go.Proofs.YtoigogonccjagaaDoor
open Go Go.Sl Go.Jn
attribute [local irreducible] LooksAt sumB sumF

/-- The number of what was refused. -/
def NumC (F : List Assn) : Prop := ∀ (l : List Assn) [Suf l F] (b : Nat) (e : Int) (w : World), Sat (blk b (refused e) 104 :: l) w →
  Ret Tryd.prog 32 [.iface 100 (ptr b)] w fun v w' => v = int e ∧ Sat (blk b (refused e) 104 :: l) w'
/-- The writes of a Commit. -/
abbrev Jl.put (J : Jl) (D : Dev) (n : Nat) : Dev := D.wrs (fun n => chunk J.B (J.used / 256 + n)) (J.fr + J.used / 256) n
/-- How a Commit ends. -/
def commitP (D : Dev) (r : Nat) (J : Jl) (F : List Assn) (v : Value) (w' : World) : Prop :=
  ((∀ i, i ≤ nWr J.B J.used → (J.put D i).fuse ≠ 1) ∧ v = int 0 ∧ Sat (dev J.p (J.put D (nWr J.B J.used)).sync :: jr r { J with used := J.B.length, recs := J.recs ++ J.adds, adds := [] } :: F) w') ∨
  (∃ m, m ≤ nWr J.B J.used ∧ (∀ i, i < m → (J.put D i).fuse ≠ 1) ∧ (J.put D m).fuse = 1 ∧ v = int 150 ∧ Sat (dev J.p (J.put D m) :: F) w')
theorem commit_empty {F : List Assn} {r : Nat} {J : Jl} {w : World} (hs : Sat (jr r J :: F) w) (hop : J.opn = true) (ha : J.adds = []) :
    Ret Tryd.prog 10 [ptr r] w fun v w' => v = int 0 ∧ Sat (jr r J :: F) w' := by
  have hs0 := hs
  obtain ⟨p, fr, count, epoch, opn, B, used, recs, adds, front⟩ := J
  replace hop : opn = true := hop
  replace ha : adds = [] := ha
  subst hop; subst ha
  obtain ⟨vB, vR, vA, hs⟩ := jr_open hs
  obtain ⟨_, qA, cA, rfl, _⟩ := (hs.pull 3 rfl).sl_len
  have hsO : Sat (blk r [ptr p, int ((fr : Nat) : Int), int ((count : Nat) : Int), int ((epoch : Nat) : Int), bool true, vB, int ((used : Nat) : Int), vR, .slice qA 0 cA, int ((front : Nat) : Int)] 30 :: sl vB 5 1 B.length (bytesV B) :: sl vR 22 1 recs.length (hd recs) :: sl (.slice qA 0 cA) 22 1 0 [] :: bods 5 (recs ++ []) :: F) w := hs
  clear hs
  have hs := hsO
  clear hsO
  have hn := none_spec (r := r) hs
  refine Ret.enter [(true, ptr r)] _ Tryd.func10 rfl Tryd.ntmps10 rfl ?_
  repeat (first | (refine MC.run1 tab 1000 rfl rfl (by first | exact True.intro | (simp only [Conds, rng, Int.toNat_natCast, List.length_append, bytesV_length] <;> omega) | (simp [Conds, rng] <;> omega) | (simp only [Conds, rng, wrap_u8, wrap_u16, wrap_u32, wrap_u64] <;> omega)) ?_) | (refine MC.la true (la_load1 hs rfl (by rfl)) rfl ?_) | (refine MC.part rfl rfl (fun h => absurd h (by first | decide | omega)) (fun _ => ?_)) | (refine MC.part rfl rfl (fun _ => ?_) (fun h => absurd (by first | decide | omega) h)) | (refine MC.cond rfl (fun h => absurd h (by first | decide | omega)) (fun _ => ?_)) | (refine MC.cond rfl (fun _ => ?_) (fun h => absurd (by first | decide | omega) h)))
  refine MC.does true (does_call rfl (hn)) rfl ?_
  rintro _ w ⟨rfl, rfl⟩
  repeat (first | (refine MC.run1 tab 1000 rfl rfl (by first | exact True.intro | (simp only [Conds, rng, Int.toNat_natCast, List.length_append, bytesV_length] <;> omega) | (simp [Conds, rng] <;> omega) | (simp only [Conds, rng, wrap_u8, wrap_u16, wrap_u32, wrap_u64] <;> omega)) ?_) | (refine MC.la true (la_load1 hs rfl (by rfl)) rfl ?_) | (refine MC.part rfl rfl (fun h => absurd h (by first | decide | omega)) (fun _ => ?_)) | (refine MC.part rfl rfl (fun _ => ?_) (fun h => absurd (by first | decide | omega) h)) | (refine MC.cond rfl (fun h => absurd h (by first | decide | omega)) (fun _ => ?_)) | (refine MC.cond rfl (fun _ => ?_) (fun h => absurd (by first | decide | omega) h)))
  refine MC.ret rfl ?_
  exact ⟨rfl, hs0⟩
set_option maxHeartbeats 4000000 in
theorem commit_spec {F : List Assn} {r : Nat} {J : Jl} {D : Dev} {w : World} (hs : Sat (dev J.p D :: jr r J :: F) w) (hD : D.ok) (hO : D.O.length ≤ 50000) (hk : J.fr + J.count ≤ D.S.length) (hfit : J.B.length ≤ J.count * 256) (hu : J.used ≤ J.B.length)
    (hop : J.opn = true) (ha : 0 < J.adds.length) (hn1 : J.recs.length + J.adds.length ≤ 1000000) (hnum : D.fuse = 0 ∨ NumC F) :
    Ret Tryd.prog 10 [ptr r] w (commitP D r J F) := by
  obtain ⟨vB, vR, vA, hs⟩ := jr_open2 hs
  obtain ⟨_, qB, cB, rfl, _⟩ := (hs.pull 2 rfl).sl_len
  obtain ⟨_, qR, cR, rfl, _⟩ := (hs.pull 3 rfl).sl_len
  obtain ⟨_, qA, cA, rfl, _⟩ := (hs.pull 4 rfl).sl_len
  obtain ⟨p, fr, count, epoch, opn, B, used, recs, adds, front⟩ := J
  replace hop : opn = true := hop
  replace hfit : B.length ≤ count * 256 := hfit
  replace hk : fr + count ≤ D.S.length := hk
  replace hu : used ≤ B.length := hu
  replace ha : 0 < adds.length := ha
  replace hn1 : recs.length + adds.length ≤ 1000000 := hn1
  subst hop
  have hsO : Sat (dev p D :: blk r [ptr p, int ((fr : Nat) : Int), int ((count : Nat) : Int), int ((epoch : Nat) : Int), bool true, .slice qB B.length cB, int ((used : Nat) : Int), .slice qR recs.length cR, .slice qA adds.length cA, int ((front : Nat) : Int)] 30 :: sl (.slice qB B.length cB) 5 1 B.length (bytesV B) :: sl (.slice qR recs.length cR) 22 1 recs.length (hd recs) :: sl (.slice qA adds.length cA) 22 1 adds.length (hd adds) :: bods 5 (recs ++ adds) :: F) w := hs
  clear hs
  have hs := hsO
  clear hsO
  have hn := none_spec (r := r) hs
  have hfl := flush_spec (r := r) hs (RdS.up (RdS.of_sl hs.tail.tail)) hD hO hk hfit hu
  refine Ret.enter [(true, ptr r)] _ Tryd.func10 rfl Tryd.ntmps10 rfl ?_
  repeat (first | (refine MC.run1 tab 1000 rfl rfl (by first | exact True.intro | (simp only [Conds, rng, Int.toNat_natCast, List.length_append, bytesV_length] <;> omega) | (simp [Conds, rng] <;> omega) | (simp only [Conds, rng, wrap_u8, wrap_u16, wrap_u32, wrap_u64] <;> omega)) ?_) | (refine MC.la true (la_load1 hs rfl (by rfl)) rfl ?_) | (refine MC.part rfl rfl (fun h => absurd h (by first | decide | omega)) (fun _ => ?_)) | (refine MC.part rfl rfl (fun _ => ?_) (fun h => absurd (by first | decide | omega) h)) | (refine MC.cond rfl (fun h => absurd h (by first | decide | omega)) (fun _ => ?_)) | (refine MC.cond rfl (fun _ => ?_) (fun h => absurd (by first | decide | omega) h)))
  refine MC.does true (does_call rfl (hn)) rfl ?_
  rintro _ w ⟨rfl, rfl⟩
  repeat (first | (refine MC.run1 tab 1000 rfl rfl (by first | exact True.intro | (simp only [Conds, rng, Int.toNat_natCast, List.length_append, bytesV_length] <;> omega) | (simp [Conds, rng] <;> omega) | (simp only [Conds, rng, wrap_u8, wrap_u16, wrap_u32, wrap_u64] <;> omega)) ?_) | (refine MC.la true (la_load1 hs rfl (by rfl)) rfl ?_) | (refine MC.part rfl rfl (fun h => absurd h (by first | decide | omega)) (fun _ => ?_)) | (refine MC.part rfl rfl (fun _ => ?_) (fun h => absurd (by first | decide | omega) h)) | (refine MC.cond rfl (fun h => absurd h (by first | decide | omega)) (fun _ => ?_)) | (refine MC.cond rfl (fun _ => ?_) (fun h => absurd (by first | decide | omega) h)))
  refine MC.does false (does_call rfl (hfl)) rfl ?_
  rintro _ w (⟨hal, rfl, hs⟩ | ⟨m, hm, hal, hf, b, rfl, hs⟩)
  · obtain ⟨D', hD'⟩ : ∃ D', (D.wrs (fun n => chunk B (used / 256 + n)) (fr + used / 256) (nWr B used)).sync = D' := ⟨_, rfl⟩
    rw [hD'] at hs
    repeat (first | (refine MC.run1 tab 1000 rfl rfl (by first | exact True.intro | (simp only [Conds, rng, Int.toNat_natCast, List.length_append, bytesV_length] <;> omega) | (simp [Conds, rng] <;> omega) | (simp only [Conds, rng, wrap_u8, wrap_u16, wrap_u32, wrap_u64] <;> omega)) ?_) | (refine MC.la true (la_load1 hs rfl (by rfl)) rfl ?_) | (refine MC.part rfl rfl (fun h => absurd h (by first | decide | omega)) (fun _ => ?_)) | (refine MC.part rfl rfl (fun _ => ?_) (fun h => absurd (by first | decide | omega) h)) | (refine MC.cond rfl (fun h => absurd h (by first | decide | omega)) (fun _ => ?_)) | (refine MC.cond rfl (fun _ => ?_) (fun h => absurd (by first | decide | omega) h)))
    refine MC.pure (f := true) (po_nnil_nil rfl) rfl ?_
    repeat (first | (refine MC.run1 tab 1000 rfl rfl (by first | exact True.intro | (simp only [Conds, rng, Int.toNat_natCast, List.length_append, bytesV_length] <;> omega) | (simp [Conds, rng] <;> omega) | (simp only [Conds, rng, wrap_u8, wrap_u16, wrap_u32, wrap_u64] <;> omega)) ?_) | (refine MC.la true (la_load1 hs rfl (by rfl)) rfl ?_) | (refine MC.part rfl rfl (fun h => absurd h (by first | decide | omega)) (fun _ => ?_)) | (refine MC.part rfl rfl (fun _ => ?_) (fun h => absurd (by first | decide | omega) h)) | (refine MC.cond rfl (fun h => absurd h (by first | decide | omega)) (fun _ => ?_)) | (refine MC.cond rfl (fun _ => ?_) (fun h => absurd (by first | decide | omega) h)))
    refine MC.draw hs [0,1,2,3,4,5,6,7,8,9,10,11,12,13,14,15,16,17,18,19,20,21,22,23,24,25] (by rfl) ?_; intro w hs
    have hrA : RdS (blk r [ptr p, int ((fr : Nat) : Int), int ((count : Nat) : Int), int ((epoch : Nat) : Int), bool true, .slice qB B.length cB, int ((used : Nat) : Int), .slice qR recs.length cR, .slice qA adds.length cA, int ((front : Nat) : Int)] 30 :: sl (.slice qB B.length cB) 5 1 B.length (bytesV B) :: sl (.slice qR recs.length cR) 22 1 recs.length (hd recs) :: sl (.slice qA adds.length cA) 22 1 adds.length (hd adds) :: bods 5 (recs ++ adds) :: F) 1 (.slice qA adds.length cA) adds.length (hd adds) := RdS.up (RdS.of_sl hs.tail.tail.tail.tail)
    have hone : ∀ u ∈ hd adds, u.oneCell' = true := by
      intro u hu
      obtain ⟨x, hx, rfl⟩ := List.mem_map.1 hu
      have hb := bods_rd (hs.pull 5 rfl : Sat (bods 5 (recs ++ adds) :: _) w) (List.mem_append_right recs hx)
      obtain ⟨q, c, e, _⟩ := hb.shape
      rw [e]; rfl
    repeat (first | (refine MC.run1 tab 1000 rfl rfl (by first | exact True.intro | (simp only [Conds, rng, Int.toNat_natCast, List.length_append, bytesV_length] <;> omega) | (simp [Conds, rng] <;> omega) | (simp only [Conds, rng, wrap_u8, wrap_u16, wrap_u32, wrap_u64] <;> omega)) ?_) | (refine MC.laD true (la_load1 hs rfl (by rfl)) rfl ?_) | (refine MC.part rfl rfl (fun h => absurd h (by first | decide | omega)) (fun _ => ?_)) | (refine MC.part rfl rfl (fun _ => ?_) (fun h => absurd (by first | decide | omega) h)) | (refine MC.cond rfl (fun h => absurd h (by first | decide | omega)) (fun _ => ?_)) | (refine MC.cond rfl (fun _ => ?_) (fun h => absurd (by first | decide | omega) h)))
    refine MC.doesK true (does_append hs rfl rfl (RdS.src hrA hone) (by omega) (by omega)) rfl rfl rfl ?_
    intro vR' w hs
    refine ⟨(by repeat (first | exact True.intro | refine ⟨At.sat hs, ?_⟩ | refine ⟨Suf.sat hs, ?_⟩)), ?_⟩
    obtain ⟨_, qR', cR', rfl, _⟩ := (hs.pull 3 rfl).sl_len
    repeat (first | (refine MC.run1 tab 1000 rfl rfl (by first | exact True.intro | (simp only [Conds, rng, Int.toNat_natCast, List.length_append, bytesV_length] <;> omega) | (simp [Conds, rng] <;> omega) | (simp only [Conds, rng, wrap_u8, wrap_u16, wrap_u32, wrap_u64] <;> omega)) ?_) | (refine MC.laD true (la_load1 hs rfl (by rfl)) rfl ?_) | (refine MC.part rfl rfl (fun h => absurd h (by first | decide | omega)) (fun _ => ?_)) | (refine MC.part rfl rfl (fun _ => ?_) (fun h => absurd (by first | decide | omega) h)) | (refine MC.cond rfl (fun h => absurd h (by first | decide | omega)) (fun _ => ?_)) | (refine MC.cond rfl (fun _ => ?_) (fun h => absurd (by first | decide | omega) h)))
    refine MC.doesD true (does_store1 hs rfl rfl rfl (by first | decide | (simp; done) | (simp; omega))) rfl rfl rfl rfl ?_; intro _ w hs
    repeat (first | (refine MC.run1 tab 1000 rfl rfl (by first | exact True.intro | (simp only [Conds, rng, Int.toNat_natCast, List.length_append, bytesV_length] <;> omega) | (simp [Conds, rng] <;> omega) | (simp only [Conds, rng, wrap_u8, wrap_u16, wrap_u32, wrap_u64] <;> omega)) ?_) | (refine MC.laD true (la_load1 hs rfl (by rfl)) rfl ?_) | (refine MC.part rfl rfl (fun h => absurd h (by first | decide | omega)) (fun _ => ?_)) | (refine MC.part rfl rfl (fun _ => ?_) (fun h => absurd (by first | decide | omega) h)) | (refine MC.cond rfl (fun h => absurd h (by first | decide | omega)) (fun _ => ?_)) | (refine MC.cond rfl (fun _ => ?_) (fun h => absurd (by first | decide | omega) h)))
    refine MC.doesD true (does_store1 hs rfl rfl rfl (by first | decide | (simp; done) | (simp; omega))) rfl rfl rfl rfl ?_; intro _ w hs
    repeat (first | (refine MC.run1 tab 1000 rfl rfl (by first | exact True.intro | (simp only [Conds, rng, Int.toNat_natCast, List.length_append, bytesV_length] <;> omega) | (simp [Conds, rng] <;> omega) | (simp only [Conds, rng, wrap_u8, wrap_u16, wrap_u32, wrap_u64] <;> omega)) ?_) | (refine MC.laD true (la_load1 hs rfl (by rfl)) rfl ?_) | (refine MC.part rfl rfl (fun h => absurd h (by first | decide | omega)) (fun _ => ?_)) | (refine MC.part rfl rfl (fun _ => ?_) (fun h => absurd (by first | decide | omega) h)) | (refine MC.cond rfl (fun h => absurd h (by first | decide | omega)) (fun _ => ?_)) | (refine MC.cond rfl (fun _ => ?_) (fun h => absurd (by first | decide | omega) h)))
    refine MC.doesD true (does_store1 hs rfl rfl rfl (by first | decide | (simp; done) | (simp; omega))) rfl rfl rfl rfl ?_; intro _ w hs
    repeat (first | (refine MC.run1 tab 1000 rfl rfl (by first | exact True.intro | (simp only [Conds, rng, Int.toNat_natCast, List.length_append, bytesV_length] <;> omega) | (simp [Conds, rng] <;> omega) | (simp only [Conds, rng, wrap_u8, wrap_u16, wrap_u32, wrap_u64] <;> omega)) ?_) | (refine MC.laD true (la_load1 hs rfl (by rfl)) rfl ?_) | (refine MC.part rfl rfl (fun h => absurd h (by first | decide | omega)) (fun _ => ?_)) | (refine MC.part rfl rfl (fun _ => ?_) (fun h => absurd (by first | decide | omega) h)) | (refine MC.cond rfl (fun h => absurd h (by first | decide | omega)) (fun _ => ?_)) | (refine MC.cond rfl (fun _ => ?_) (fun h => absurd (by first | decide | omega) h)))
    repeat (first | (refine MC.run1 tab 1000 rfl rfl (by first | exact True.intro | (simp only [Conds, rng, Int.toNat_natCast, List.length_append, bytesV_length] <;> omega) | (simp [Conds, rng] <;> omega) | (simp only [Conds, rng, wrap_u8, wrap_u16, wrap_u32, wrap_u64] <;> omega)) ?_) | (refine MC.la true (la_load1 hs rfl (by rfl)) rfl ?_) | (refine MC.part rfl rfl (fun h => absurd h (by first | decide | omega)) (fun _ => ?_)) | (refine MC.part rfl rfl (fun _ => ?_) (fun h => absurd (by first | decide | omega) h)) | (refine MC.cond rfl (fun h => absurd h (by first | decide | omega)) (fun _ => ?_)) | (refine MC.cond rfl (fun _ => ?_) (fun h => absurd (by first | decide | omega) h)))
    refine MC.ret rfl ?_
    refine .inl ⟨hal, rfl, ?_⟩
    have hs : Sat (dev p D' :: blk r [ptr p, int ((fr : Nat) : Int), int ((count : Nat) : Int), int ((epoch : Nat) : Int), bool true, .slice qB B.length cB, int ((B.length : Nat) : Int), .slice qR' (recs.length + adds.length) cR', .slice none 0 0, int ((front : Nat) : Int)] 30 :: sl (.slice qB B.length cB) 5 1 B.length (bytesV B) :: sl (.slice qR' (recs.length + adds.length) cR') 22 1 (recs.length + adds.length) (hd recs ++ hd adds) :: sl (.slice qA adds.length cA) 22 1 adds.length (hd adds) :: bods 5 (recs ++ adds) :: F) w := hs
    have hs := ((hs.pickF 6 [0, 1, 2, 3, 5] rfl rfl).sl_nil 22 1).pickF 6 [1, 2, 3, 4, 0, 5] rfl rfl
    have hput : Jl.put ⟨p, fr, count, epoch, true, B, used, recs, adds, front⟩ D (nWr B used) = D.wrs (fun n => chunk B (used / 256 + n)) (fr + used / 256) (nWr B used) := rfl
    show Sat (dev p (Dev.sync (Jl.put ⟨p, fr, count, epoch, true, B, used, recs, adds, front⟩ D (nWr B used))) :: jr r ⟨p, fr, count, epoch, true, B, B.length, recs ++ adds, [], front⟩ :: F) w
    rw [hput, hD']
    refine jr_shut2 (J := ⟨p, fr, count, epoch, true, B, B.length, recs ++ adds, [], front⟩) (vB := .slice qB B.length cB) (vR := .slice qR' (recs.length + adds.length) cR') (vA := .slice none 0 0) ?_
    show Sat (dev p D' :: blk r [ptr p, int ((fr : Nat) : Int), int ((count : Nat) : Int), int ((epoch : Nat) : Int), bool true, .slice qB B.length cB, int ((B.length : Nat) : Int), .slice qR' (recs.length + adds.length) cR', .slice none 0 0, int ((front : Nat) : Int)] 30 :: sl (.slice qB B.length cB) 5 1 B.length (bytesV B) :: sl (.slice qR' (recs.length + adds.length) cR') 22 1 (recs ++ adds).length (hd (recs ++ adds)) :: sl (.slice none 0 0) 22 1 ([] : List (Value × Bs)).length (hd []) :: bods 5 ((recs ++ adds) ++ []) :: F) w
    rw [List.append_nil, List.length_append, hd_app]
    exact hs
  · rcases hnum with h0 | hnum
    · rw [wrs_alive h0] at hf
      exact absurd hf (by decide)
    obtain ⟨D', hD'⟩ : ∃ D', D.wrs (fun n => chunk B (used / 256 + n)) (fr + used / 256) m = D' := ⟨_, rfl⟩
    rw [hD'] at hs hf
    repeat (first | (refine MC.run1 tab 1000 rfl rfl (by first | exact True.intro | (simp only [Conds, rng, Int.toNat_natCast, List.length_append, bytesV_length] <;> omega) | (simp [Conds, rng] <;> omega) | (simp only [Conds, rng, wrap_u8, wrap_u16, wrap_u32, wrap_u64] <;> omega)) ?_) | (refine MC.la true (la_load1 hs rfl (by rfl)) rfl ?_) | (refine MC.part rfl rfl (fun h => absurd h (by first | decide | omega)) (fun _ => ?_)) | (refine MC.part rfl rfl (fun _ => ?_) (fun h => absurd (by first | decide | omega) h)) | (refine MC.cond rfl (fun h => absurd h (by first | decide | omega)) (fun _ => ?_)) | (refine MC.cond rfl (fun _ => ?_) (fun h => absurd (by first | decide | omega) h)))
    refine MC.pure (f := true) (po_nnil_some rfl) rfl ?_
    repeat (first | (refine MC.run1 tab 1000 rfl rfl (by first | exact True.intro | (simp only [Conds, rng, Int.toNat_natCast, List.length_append, bytesV_length] <;> omega) | (simp [Conds, rng] <;> omega) | (simp only [Conds, rng, wrap_u8, wrap_u16, wrap_u32, wrap_u64] <;> omega)) ?_) | (refine MC.la true (la_load1 hs rfl (by rfl)) rfl ?_) | (refine MC.part rfl rfl (fun h => absurd h (by first | decide | omega)) (fun _ => ?_)) | (refine MC.part rfl rfl (fun _ => ?_) (fun h => absurd (by first | decide | omega) h)) | (refine MC.cond rfl (fun h => absurd h (by first | decide | omega)) (fun _ => ?_)) | (refine MC.cond rfl (fun _ => ?_) (fun h => absurd (by first | decide | omega) h)))
    refine MC.does true (does_store1 hs rfl rfl rfl (by first | decide | (simp; done) | (simp; omega))) rfl ?_; intro _ w hs
    repeat (first | (refine MC.run1 tab 1000 rfl rfl (by first | exact True.intro | (simp only [Conds, rng, Int.toNat_natCast, List.length_append, bytesV_length] <;> omega) | (simp [Conds, rng] <;> omega) | (simp only [Conds, rng, wrap_u8, wrap_u16, wrap_u32, wrap_u64] <;> omega)) ?_) | (refine MC.la true (la_load1 hs rfl (by rfl)) rfl ?_) | (refine MC.part rfl rfl (fun h => absurd h (by first | decide | omega)) (fun _ => ?_)) | (refine MC.part rfl rfl (fun _ => ?_) (fun h => absurd (by first | decide | omega) h)) | (refine MC.cond rfl (fun h => absurd h (by first | decide | omega)) (fun _ => ?_)) | (refine MC.cond rfl (fun _ => ?_) (fun h => absurd (by first | decide | omega) h)))
    refine MC.does true (does_store1 hs rfl rfl rfl (by first | decide | (simp; done) | (simp; omega))) rfl ?_; intro _ w hs
    repeat (first | (refine MC.run1 tab 1000 rfl rfl (by first | exact True.intro | (simp only [Conds, rng, Int.toNat_natCast, List.length_append, bytesV_length] <;> omega) | (simp [Conds, rng] <;> omega) | (simp only [Conds, rng, wrap_u8, wrap_u16, wrap_u32, wrap_u64] <;> omega)) ?_) | (refine MC.la true (la_load1 hs rfl (by rfl)) rfl ?_) | (refine MC.part rfl rfl (fun h => absurd h (by first | decide | omega)) (fun _ => ?_)) | (refine MC.part rfl rfl (fun _ => ?_) (fun h => absurd (by first | decide | omega) h)) | (refine MC.cond rfl (fun h => absurd h (by first | decide | omega)) (fun _ => ?_)) | (refine MC.cond rfl (fun _ => ?_) (fun h => absurd (by first | decide | omega) h)))
    refine MC.draw hs [0,1,2,3,4,5,6,7,8,9,10,11,12,13,14,15,16] (by rfl) ?_; intro w hs
    repeat (first | (refine MC.run1 tab 1000 rfl rfl (by first | exact True.intro | (simp only [Conds, rng, Int.toNat_natCast, List.length_append, bytesV_length] <;> omega) | (simp [Conds, rng] <;> omega) | (simp only [Conds, rng, wrap_u8, wrap_u16, wrap_u32, wrap_u64] <;> omega)) ?_) | (refine MC.laD true (la_load1 hs rfl (by rfl)) rfl ?_) | (refine MC.part rfl rfl (fun h => absurd h (by first | decide | omega)) (fun _ => ?_)) | (refine MC.part rfl rfl (fun _ => ?_) (fun h => absurd (by first | decide | omega) h)) | (refine MC.cond rfl (fun h => absurd h (by first | decide | omega)) (fun _ => ?_)) | (refine MC.cond rfl (fun _ => ?_) (fun h => absurd (by first | decide | omega) h)))
    have hub : used ≤ cB := by
      have := (hs.pull 3 rfl).sl_len
      obtain ⟨_, _, _, e, h⟩ := this
      injection e with _ _ e
      omega
    refine MC.pure (f := true) (po_slice3_hi (b := used) (m := used) rfl rfl rfl (Nat.le_refl _) hub) rfl ?_
    repeat (first | (refine MC.run1 tab 1000 rfl rfl (by first | exact True.intro | (simp only [Conds, rng, Int.toNat_natCast, List.length_append, bytesV_length] <;> omega) | (simp [Conds, rng] <;> omega) | (simp only [Conds, rng, wrap_u8, wrap_u16, wrap_u32, wrap_u64] <;> omega)) ?_) | (refine MC.laD true (la_load1 hs rfl (by rfl)) rfl ?_) | (refine MC.part rfl rfl (fun h => absurd h (by first | decide | omega)) (fun _ => ?_)) | (refine MC.part rfl rfl (fun _ => ?_) (fun h => absurd (by first | decide | omega) h)) | (refine MC.cond rfl (fun h => absurd h (by first | decide | omega)) (fun _ => ?_)) | (refine MC.cond rfl (fun _ => ?_) (fun h => absurd (by first | decide | omega) h)))
    refine MC.doesD true (does_store1 hs rfl rfl rfl (by first | decide | (simp; done) | (simp; omega))) rfl rfl rfl rfl ?_; intro _ w hs
    have hs : Sat (blk b (refused 150) 104 :: dev p D' :: blk r [ptr p, int ((fr : Nat) : Int), int ((count : Nat) : Int), int ((epoch : Nat) : Int), bool false, .slice qB used used, int ((used : Nat) : Int), .slice qR recs.length cR, .slice none 0 0, int ((front : Nat) : Int)] 30 :: sl (.slice qB B.length cB) 5 1 B.length (bytesV B) :: sl (.slice qR recs.length cR) 22 1 recs.length (hd recs) :: sl (.slice qA adds.length cA) 22 1 adds.length (hd adds) :: bods 5 (recs ++ adds) :: F) w := hs
    have hnb := hnum _ b 150 w hs
    repeat (first | (refine MC.run1 tab 1000 rfl rfl (by first | exact True.intro | (simp only [Conds, rng, Int.toNat_natCast, List.length_append, bytesV_length] <;> omega) | (simp [Conds, rng] <;> omega) | (simp only [Conds, rng, wrap_u8, wrap_u16, wrap_u32, wrap_u64] <;> omega)) ?_) | (refine MC.laD true (la_load1 hs rfl (by rfl)) rfl ?_) | (refine MC.part rfl rfl (fun h => absurd h (by first | decide | omega)) (fun _ => ?_)) | (refine MC.part rfl rfl (fun _ => ?_) (fun h => absurd (by first | decide | omega) h)) | (refine MC.cond rfl (fun h => absurd h (by first | decide | omega)) (fun _ => ?_)) | (refine MC.cond rfl (fun _ => ?_) (fun h => absurd (by first | decide | omega) h)))
    repeat (first | (refine MC.run1 tab 1000 rfl rfl (by first | exact True.intro | (simp only [Conds, rng, Int.toNat_natCast, List.length_append, bytesV_length] <;> omega) | (simp [Conds, rng] <;> omega) | (simp only [Conds, rng, wrap_u8, wrap_u16, wrap_u32, wrap_u64] <;> omega)) ?_) | (refine MC.la true (la_load1 hs rfl (by rfl)) rfl ?_) | (refine MC.part rfl rfl (fun h => absurd h (by first | decide | omega)) (fun _ => ?_)) | (refine MC.part rfl rfl (fun _ => ?_) (fun h => absurd (by first | decide | omega) h)) | (refine MC.cond rfl (fun h => absurd h (by first | decide | omega)) (fun _ => ?_)) | (refine MC.cond rfl (fun _ => ?_) (fun h => absurd (by first | decide | omega) h)))
    refine MC.does true (does_call rfl (hnb)) rfl ?_
    rintro _ w ⟨rfl, hs⟩
    repeat (first | (refine MC.run1 tab 1000 rfl rfl (by first | exact True.intro | (simp only [Conds, rng, Int.toNat_natCast, List.length_append, bytesV_length] <;> omega) | (simp [Conds, rng] <;> omega) | (simp only [Conds, rng, wrap_u8, wrap_u16, wrap_u32, wrap_u64] <;> omega)) ?_) | (refine MC.la true (la_load1 hs rfl (by rfl)) rfl ?_) | (refine MC.part rfl rfl (fun h => absurd h (by first | decide | omega)) (fun _ => ?_)) | (refine MC.part rfl rfl (fun _ => ?_) (fun h => absurd (by first | decide | omega) h)) | (refine MC.cond rfl (fun h => absurd h (by first | decide | omega)) (fun _ => ?_)) | (refine MC.cond rfl (fun _ => ?_) (fun h => absurd (by first | decide | omega) h)))
    refine MC.ret rfl ?_
    refine .inr ⟨m, hm, hal, ?_, rfl, ?_⟩
    · have hput : Jl.put ⟨p, fr, count, epoch, true, B, used, recs, adds, front⟩ D m = D.wrs (fun n => chunk B (used / 256 + n)) (fr + used / 256) m := rfl
      rw [hput, hD']; exact hf
    · have hput : Jl.put ⟨p, fr, count, epoch, true, B, used, recs, adds, front⟩ D m = D.wrs (fun n => chunk B (used / 256 + n)) (fr + used / 256) m := rfl
      rw [hput, hD']
      exact hs.pickF 7 [1] rfl rfl
end Go.Proofs.YtoigogonccjagaaDoor
