/- The law of roots that no call made: its walk; its argument as a row hands it in. -/
import Derived.Test.YtoljbocejclaeaaRj
set_option linter.unusedVariables false
set_option linter.unusedSimpArgs false
namespace Go.Proofs.Ytoljbocejclaeaa
open Go Go.Sl Go.ChangeShapes Go.WideShapes
attribute [local irreducible] LooksAt

theorem size_zero {p : Nat} {F : List Assn} {w : World} (hs : Sat (blk p [.slice none 0 0, .slice none 0 0, int 0, int 0] 48 :: F) w) : Ret Try.prog 22 [ptr p] w fun v w' => v = int 0 ∧ w' = w := by
  refine Ret.enter [(true, ptr p)] _ Try.func22 rfl Try.ntmps22 rfl ?_
  repeat (first | (refine MC.run1 tab 1000 rfl rfl (by first | exact True.intro | (simp only [Conds, rng, Int.toNat_natCast, List.length_append, bytesV_length] <;> omega) | (simp [Conds, rng] <;> omega) | (simp only [Conds, rng, wrap_u8, wrap_u16, wrap_u32, wrap_u64] <;> omega)) ?_) | (refine MC.la true (la_load1 hs rfl (by rfl)) rfl ?_) | (refine MC.part rfl rfl (fun h => absurd h (by first | decide | omega)) (fun _ => ?_)) | (refine MC.part rfl rfl (fun _ => ?_) (fun h => absurd (by first | decide | omega) h)) | (refine MC.cond rfl (fun h => absurd h (by first | decide | omega)) (fun _ => ?_)) | (refine MC.cond rfl (fun _ => ?_) (fun h => absurd (by first | decide | omega) h)))
  refine MC.ret rfl ?_
  exact ⟨rfl, rfl⟩
theorem rnobody_walk (kd ep k at' : Int) (qf qk : Option Addr) (nf cf nk ck : Nat) {F : List Assn} {w : World} (hs : Sat F w) :
    Ret Try.prog 8 [.agg #[int kd, int ep, int k, int at', .slice qf nf cf, .slice qk nk ck]] w fun v w' => v = bool true ∧ Sat F w' := by
  refine Ret.enter [(true, .agg #[int kd, int ep, int k, int at', .slice qf nf cf, .slice qk nk ck])] _ Try.func8 rfl Try.ntmps8 rfl ?_
  repeat (first | (refine MC.run1 tab 1000 rfl rfl (by first | exact True.intro | (simp only [Conds, rng, Int.toNat_natCast, List.length_append, bytesV_length] <;> omega) | (simp [Conds, rng] <;> omega) | (simp only [Conds, rng, wrap_u8, wrap_u16, wrap_u32, wrap_u64] <;> omega)) ?_) | (refine MC.la true (la_load1 hs rfl (by rfl)) rfl ?_) | (refine MC.part rfl rfl (fun h => absurd h (by first | decide | omega)) (fun _ => ?_)) | (refine MC.part rfl rfl (fun _ => ?_) (fun h => absurd (by first | decide | omega) h)) | (refine MC.cond rfl (fun h => absurd h (by first | decide | omega)) (fun _ => ?_)) | (refine MC.cond rfl (fun _ => ?_) (fun h => absurd (by first | decide | omega) h)))
  refine MC.does true (does_box hs rfl rfl) rfl ?_; rintro _ w ⟨b1, rfl, hs⟩
  repeat (first | (refine MC.run1 tab 1000 rfl rfl (by first | exact True.intro | (simp only [Conds, rng, Int.toNat_natCast, List.length_append, bytesV_length] <;> omega) | (simp [Conds, rng] <;> omega) | (simp only [Conds, rng, wrap_u8, wrap_u16, wrap_u32, wrap_u64] <;> omega)) ?_) | (refine MC.la true (la_load1 hs rfl (by rfl)) rfl ?_) | (refine MC.part rfl rfl (fun h => absurd h (by first | decide | omega)) (fun _ => ?_)) | (refine MC.part rfl rfl (fun _ => ?_) (fun h => absurd (by first | decide | omega) h)) | (refine MC.cond rfl (fun h => absurd h (by first | decide | omega)) (fun _ => ?_)) | (refine MC.cond rfl (fun _ => ?_) (fun h => absurd (by first | decide | omega) h)))
  refine MC.pure (f := true) (po_build (ls := []) (out := [.pointer none, int 0, bool false, int 0, .slice none 0 0, bool false, int 0, .slice none 0 0]) rfl rfl trivial rfl) rfl ?_
  refine MC.does true (does_box hs rfl rfl) rfl ?_; rintro _ w ⟨p, rfl, hs⟩
  refine MC.does true (does_buildL hs rfl rfl rfl (by first | (intro u hu; simp only [List.mem_cons, List.not_mem_nil, or_false] at hu; rcases hu with rfl | rfl | rfl | rfl | rfl | rfl | rfl | rfl <;> rfl) | (intro u hu; simp only [List.mem_cons, List.not_mem_nil, or_false] at hu; rcases hu with rfl | rfl | rfl | rfl <;> rfl) | (intro u hu; simp only [List.mem_cons, List.not_mem_nil, or_false] at hu; rcases hu with rfl | rfl <;> rfl) | (intro u hu; simp only [List.mem_cons, List.not_mem_nil, or_false] at hu; subst hu; rfl)) rfl) rfl ?_; rintro _ w ⟨b2, rfl, hs⟩
  have hs := hs.swap
  repeat (first | (refine MC.run1 tab 1000 rfl rfl (by first | exact True.intro | (simp only [Conds, rng, Int.toNat_natCast, List.length_append, bytesV_length] <;> omega) | (simp [Conds, rng] <;> omega) | (simp only [Conds, rng, wrap_u8, wrap_u16, wrap_u32, wrap_u64] <;> omega)) ?_) | (refine MC.la true (la_load1 hs rfl (by rfl)) rfl ?_) | (refine MC.part rfl rfl (fun h => absurd h (by first | decide | omega)) (fun _ => ?_)) | (refine MC.part rfl rfl (fun _ => ?_) (fun h => absurd (by first | decide | omega) h)) | (refine MC.cond rfl (fun h => absurd h (by first | decide | omega)) (fun _ => ?_)) | (refine MC.cond rfl (fun _ => ?_) (fun h => absurd (by first | decide | omega) h)))
  refine MC.cutAt 2 [(1, true, ptr b1)] (fun w => Sat (blk p [.pointer none, int 0, bool false, int 0, .slice none 0 0, bool false, int 0, .slice none 0 0] 62 :: blk b2 [.pointer none, ptr p] 57 :: blk b1 [int kd, int ep, int k, int at', .slice qf nf cf, .slice qk nk ck] 56 :: F) w) rfl (fun w hs => ?_) ?_
  · (try dsimp only [List.drop_succ_cons, List.drop_zero, List.take_succ_cons, List.take_zero, List.cons_append, List.nil_append])
    repeat (first | (refine MC.run1 tab 1000 rfl rfl (by first | exact True.intro | (simp only [Conds, rng, Int.toNat_natCast, List.length_append, bytesV_length] <;> omega) | (simp [Conds, rng] <;> omega) | (simp only [Conds, rng, wrap_u8, wrap_u16, wrap_u32, wrap_u64] <;> omega)) ?_) | (refine MC.la true (la_load1 hs rfl (by rfl)) rfl ?_) | (refine MC.part rfl rfl (fun h => absurd h (by first | decide | omega)) (fun _ => ?_)) | (refine MC.part rfl rfl (fun _ => ?_) (fun h => absurd (by first | decide | omega) h)) | (refine MC.cond rfl (fun h => absurd h (by first | decide | omega)) (fun _ => ?_)) | (refine MC.cond rfl (fun _ => ?_) (fun h => absurd (by first | decide | omega) h)))
    refine MC.does true (does_call rfl (ropen_nob (q := none) (l := []) (fun w _ => size_nil) Sat.nil at')) rfl ?_
    rintro _ w' ⟨rfl, rfl⟩
    repeat (first | (refine MC.run1 tab 1000 rfl rfl (by first | exact True.intro | (simp only [Conds, rng, Int.toNat_natCast, List.length_append, bytesV_length] <;> omega) | (simp [Conds, rng] <;> omega) | (simp only [Conds, rng, wrap_u8, wrap_u16, wrap_u32, wrap_u64] <;> omega)) ?_) | (refine MC.la true (la_load1 hs rfl (by rfl)) rfl ?_) | (refine MC.part rfl rfl (fun h => absurd h (by first | decide | omega)) (fun _ => ?_)) | (refine MC.part rfl rfl (fun _ => ?_) (fun h => absurd (by first | decide | omega) h)) | (refine MC.cond rfl (fun h => absurd h (by first | decide | omega)) (fun _ => ?_)) | (refine MC.cond rfl (fun _ => ?_) (fun h => absurd (by first | decide | omega) h)))
    refine MC.pure (f := true) (po_build (ls := []) (out := [.slice none 0 0, .slice none 0 0, int 0, int 0]) rfl rfl trivial rfl) rfl ?_
    refine MC.does true (does_box hs rfl rfl) rfl ?_; rintro _ w ⟨pz, rfl, hs⟩
    repeat (first | (refine MC.run1 tab 1000 rfl rfl (by first | exact True.intro | (simp only [Conds, rng, Int.toNat_natCast, List.length_append, bytesV_length] <;> omega) | (simp [Conds, rng] <;> omega) | (simp only [Conds, rng, wrap_u8, wrap_u16, wrap_u32, wrap_u64] <;> omega)) ?_) | (refine MC.la true (la_load1 hs rfl (by rfl)) rfl ?_) | (refine MC.part rfl rfl (fun h => absurd h (by first | decide | omega)) (fun _ => ?_)) | (refine MC.part rfl rfl (fun _ => ?_) (fun h => absurd (by first | decide | omega) h)) | (refine MC.cond rfl (fun h => absurd h (by first | decide | omega)) (fun _ => ?_)) | (refine MC.cond rfl (fun _ => ?_) (fun h => absurd (by first | decide | omega) h)))
    refine MC.does true (does_call rfl (ropen_nob (q := some ⟨pz, 0, none⟩) (fun w h => size_zero h) hs at')) rfl ?_
    rintro _ w' ⟨rfl, rfl⟩
    repeat (first | (refine MC.run1 tab 1000 rfl rfl (by first | exact True.intro | (simp only [Conds, rng, Int.toNat_natCast, List.length_append, bytesV_length] <;> omega) | (simp [Conds, rng] <;> omega) | (simp only [Conds, rng, wrap_u8, wrap_u16, wrap_u32, wrap_u64] <;> omega)) ?_) | (refine MC.la true (la_load1 hs rfl (by rfl)) rfl ?_) | (refine MC.part rfl rfl (fun h => absurd h (by first | decide | omega)) (fun _ => ?_)) | (refine MC.part rfl rfl (fun _ => ?_) (fun h => absurd (by first | decide | omega) h)) | (refine MC.cond rfl (fun h => absurd h (by first | decide | omega)) (fun _ => ?_)) | (refine MC.cond rfl (fun _ => ?_) (fun h => absurd (by first | decide | omega) h)))
    refine MC.ret rfl ?_
    exact ⟨rfl, Suf.sat hs⟩
  (try dsimp only [List.drop_succ_cons, List.drop_zero, List.take_succ_cons, List.take_zero, List.cons_append, List.nil_append])
  refine MC.loop (σ := Nat) (fun i => [(1, true, ptr b1), (14, true, .slice (some ⟨b2, 0, none⟩) 2 2), (15, true, int 2), (16, true, int ((i : Nat) : Int))])
    (fun i w => i ≤ 2 ∧ Sat (blk p [.pointer none, int 0, bool false, int 0, .slice none 0 0, bool false, int 0, .slice none 0 0] 62 :: blk b2 [.pointer none, ptr p] 57 :: blk b1 [int kd, int ep, int k, int at', .slice qf nf cf, .slice qk nk ck] 56 :: F) w) (fun i => 2 - i) 0 (by repeat (first | exact trivial | refine ⟨rfl, ?_⟩)) ⟨by decide, hs⟩ ?_
  rintro i w ⟨hi, hs⟩
  obtain rfl | rfl | rfl : i = 0 ∨ i = 1 ∨ i = 2 := by omega
  · skip
    repeat (first | (refine MC.run1 tab 1000 rfl rfl (by first | exact True.intro | (simp only [Conds, rng, Int.toNat_natCast, List.length_append, bytesV_length] <;> omega) | (simp [Conds, rng] <;> omega) | (simp only [Conds, rng, wrap_u8, wrap_u16, wrap_u32, wrap_u64] <;> omega)) ?_) | (refine MC.la true (la_load1 hs rfl (by rfl)) rfl ?_) | (refine MC.part rfl rfl (fun h => absurd h (by first | decide | omega)) (fun _ => ?_)) | (refine MC.part rfl rfl (fun _ => ?_) (fun h => absurd (by first | decide | omega) h)) | (refine MC.cond rfl (fun h => absurd h (by first | decide | omega)) (fun _ => ?_)) | (refine MC.cond rfl (fun _ => ?_) (fun h => absurd (by first | decide | omega) h)))
    refine MC.does true (does_call rfl (latest_nil)) rfl ?_
    rintro _ w' ⟨rfl, rfl⟩
    repeat (first | (refine MC.run1 tab 1000 rfl rfl (by first | exact True.intro | (simp only [Conds, rng, Int.toNat_natCast, List.length_append, bytesV_length] <;> omega) | (simp [Conds, rng] <;> omega) | (simp only [Conds, rng, wrap_u8, wrap_u16, wrap_u32, wrap_u64] <;> omega)) ?_) | (refine MC.la true (la_load1 hs rfl (by rfl)) rfl ?_) | (refine MC.part rfl rfl (fun h => absurd h (by first | decide | omega)) (fun _ => ?_)) | (refine MC.part rfl rfl (fun _ => ?_) (fun h => absurd (by first | decide | omega) h)) | (refine MC.cond rfl (fun h => absurd h (by first | decide | omega)) (fun _ => ?_)) | (refine MC.cond rfl (fun _ => ?_) (fun h => absurd (by first | decide | omega) h)))
    refine MC.does true (does_call rfl (save_nil (.slice qf nf cf) ep)) rfl ?_
    rintro _ w' ⟨rfl, rfl⟩
    repeat (first | (refine MC.run1 tab 1000 rfl rfl (by first | exact True.intro | (simp only [Conds, rng, Int.toNat_natCast, List.length_append, bytesV_length] <;> omega) | (simp [Conds, rng] <;> omega) | (simp only [Conds, rng, wrap_u8, wrap_u16, wrap_u32, wrap_u64] <;> omega)) ?_) | (refine MC.la true (la_load1 hs rfl (by rfl)) rfl ?_) | (refine MC.part rfl rfl (fun h => absurd h (by first | decide | omega)) (fun _ => ?_)) | (refine MC.part rfl rfl (fun _ => ?_) (fun h => absurd (by first | decide | omega) h)) | (refine MC.cond rfl (fun h => absurd h (by first | decide | omega)) (fun _ => ?_)) | (refine MC.cond rfl (fun _ => ?_) (fun h => absurd (by first | decide | omega) h)))
    exact MC.again 1 (by repeat (first | exact trivial | refine ⟨rfl, ?_⟩)) ⟨by decide, hs⟩ (by decide)
  · skip
    repeat (first | (refine MC.run1 tab 1000 rfl rfl (by first | exact True.intro | (simp only [Conds, rng, Int.toNat_natCast, List.length_append, bytesV_length] <;> omega) | (simp [Conds, rng] <;> omega) | (simp only [Conds, rng, wrap_u8, wrap_u16, wrap_u32, wrap_u64] <;> omega)) ?_) | (refine MC.la true (la_load1 hs rfl (by rfl)) rfl ?_) | (refine MC.part rfl rfl (fun h => absurd h (by first | decide | omega)) (fun _ => ?_)) | (refine MC.part rfl rfl (fun _ => ?_) (fun h => absurd (by first | decide | omega) h)) | (refine MC.cond rfl (fun h => absurd h (by first | decide | omega)) (fun _ => ?_)) | (refine MC.cond rfl (fun _ => ?_) (fun h => absurd (by first | decide | omega) h)))
    refine MC.does true (does_call rfl (latest_zero hs)) rfl ?_
    rintro _ w' ⟨rfl, rfl⟩
    repeat (first | (refine MC.run1 tab 1000 rfl rfl (by first | exact True.intro | (simp only [Conds, rng, Int.toNat_natCast, List.length_append, bytesV_length] <;> omega) | (simp [Conds, rng] <;> omega) | (simp only [Conds, rng, wrap_u8, wrap_u16, wrap_u32, wrap_u64] <;> omega)) ?_) | (refine MC.la true (la_load1 hs rfl (by rfl)) rfl ?_) | (refine MC.part rfl rfl (fun h => absurd h (by first | decide | omega)) (fun _ => ?_)) | (refine MC.part rfl rfl (fun _ => ?_) (fun h => absurd (by first | decide | omega) h)) | (refine MC.cond rfl (fun h => absurd h (by first | decide | omega)) (fun _ => ?_)) | (refine MC.cond rfl (fun _ => ?_) (fun h => absurd (by first | decide | omega) h)))
    refine MC.does true (does_call rfl (save_zero hs (.slice qf nf cf) ep)) rfl ?_
    rintro _ w' ⟨rfl, rfl⟩
    repeat (first | (refine MC.run1 tab 1000 rfl rfl (by first | exact True.intro | (simp only [Conds, rng, Int.toNat_natCast, List.length_append, bytesV_length] <;> omega) | (simp [Conds, rng] <;> omega) | (simp only [Conds, rng, wrap_u8, wrap_u16, wrap_u32, wrap_u64] <;> omega)) ?_) | (refine MC.la true (la_load1 hs rfl (by rfl)) rfl ?_) | (refine MC.part rfl rfl (fun h => absurd h (by first | decide | omega)) (fun _ => ?_)) | (refine MC.part rfl rfl (fun _ => ?_) (fun h => absurd (by first | decide | omega) h)) | (refine MC.cond rfl (fun h => absurd h (by first | decide | omega)) (fun _ => ?_)) | (refine MC.cond rfl (fun _ => ?_) (fun h => absurd (by first | decide | omega) h)))
    exact MC.again 2 (by repeat (first | exact trivial | refine ⟨rfl, ?_⟩)) ⟨by decide, hs⟩ (by decide)
  · skip
    repeat (first | (refine MC.run1 tab 1000 rfl rfl (by first | exact True.intro | (simp only [Conds, rng, Int.toNat_natCast, List.length_append, bytesV_length] <;> omega) | (simp [Conds, rng] <;> omega) | (simp only [Conds, rng, wrap_u8, wrap_u16, wrap_u32, wrap_u64] <;> omega)) ?_) | (refine MC.la true (la_load1 hs rfl (by rfl)) rfl ?_) | (refine MC.part rfl rfl (fun h => absurd h (by first | decide | omega)) (fun _ => ?_)) | (refine MC.part rfl rfl (fun _ => ?_) (fun h => absurd (by first | decide | omega) h)) | (refine MC.cond rfl (fun h => absurd h (by first | decide | omega)) (fun _ => ?_)) | (refine MC.cond rfl (fun _ => ?_) (fun h => absurd (by first | decide | omega) h)))
    exact MC.meet (by repeat (first | exact trivial | refine ⟨rfl, ?_⟩)) hs
structure Act17R where
  kd : Int
  ep : Int
  k : Int
  at' : Int
  qf : Option Addr
  nf : Nat
  cf : Nat
  qk : Option Addr
  nk : Nat
  ck : Nat
def Act17R.row (a : Act17R) : List Value := [int a.kd, int a.ep, int a.k, int a.at', .slice a.qf a.nf a.cf, .slice a.qk a.nk a.ck]
theorem six' {l : List Value} (h : l.length = 6) : ∃ a b c d e f, l = [a, b, c, d, e, f] := by
  match l, h with
  | [a, b, c, d, e, f], _ => exact ⟨a, b, c, d, e, f, rfl⟩
theorem act17_dec {H : Type} {enc : TypeId × Value → H} {W : World} (n : Nat) (cs : List Value) (x : DataW H × List MemPlace) (h : DataW.trod enc Try.prog W 0 (fun _ => true) true n 56 cs = some x) : ∃ y : Act17R, cs = y.row ∧ y.row.length = 6 ∧ True := by
  obtain ⟨xs, m, _, _, hl, hxl, hf⟩ := DataW.trod_struct Try.underlying56 h
  obtain ⟨c0, c1, c2, c3, c4, c5, rfl⟩ := six' (l := cs) (hl.trans (by kernel_rfl))
  obtain ⟨x0, h0⟩ : ∃ x0, xs[0]? = some x0 := ⟨_, List.getElem?_eq_getElem (by rw [hxl]; decide)⟩
  obtain ⟨x1, h1⟩ : ∃ x0, xs[1]? = some x0 := ⟨_, List.getElem?_eq_getElem (by rw [hxl]; decide)⟩
  obtain ⟨x2, h2⟩ : ∃ x0, xs[2]? = some x0 := ⟨_, List.getElem?_eq_getElem (by rw [hxl]; decide)⟩
  obtain ⟨x3, h3⟩ : ∃ x0, xs[3]? = some x0 := ⟨_, List.getElem?_eq_getElem (by rw [hxl]; decide)⟩
  obtain ⟨x4, h4⟩ : ∃ x0, xs[4]? = some x0 := ⟨_, List.getElem?_eq_getElem (by rw [hxl]; decide)⟩
  obtain ⟨x5, h5⟩ : ∃ x0, xs[5]? = some x0 := ⟨_, List.getElem?_eq_getElem (by rw [hxl]; decide)⟩
  have c3' : Try.prog.cellsOf 3 = 1 := by kernel_rfl
  have c36' : Try.prog.cellsOf 31 = 1 := by kernel_rfl
  have c23' : Try.prog.cellsOf 23 = 1 := by kernel_rfl
  have c4' : Try.prog.cellsOf 4 = 1 := by kernel_rfl
  have e0 : DataW.trod enc Try.prog W 0 (fun _ => true) true m 3 (([c0, c1, c2, c3, c4, c5].drop 0).take (Try.prog.cellsOf 3)) = some x0 := (hf 0 _ rfl).trans h0
  rw [c3'] at e0
  have e1 : DataW.trod enc Try.prog W 0 (fun _ => true) true m 3 (([c0, c1, c2, c3, c4, c5].drop 1).take (Try.prog.cellsOf 3)) = some x1 := (hf 1 _ rfl).trans h1
  rw [c3'] at e1
  have e2 : DataW.trod enc Try.prog W 0 (fun _ => true) true m 3 (([c0, c1, c2, c3, c4, c5].drop 2).take (Try.prog.cellsOf 3)) = some x2 := (hf 2 _ rfl).trans h2
  rw [c3'] at e2
  have e3 : DataW.trod enc Try.prog W 0 (fun _ => true) true m 3 (([c0, c1, c2, c3, c4, c5].drop 3).take (Try.prog.cellsOf 3)) = some x3 := (hf 3 _ rfl).trans h3
  rw [c3'] at e3
  have e4 : DataW.trod enc Try.prog W 0 (fun _ => true) true m 31 (([c0, c1, c2, c3, c4, c5].drop 4).take (Try.prog.cellsOf 31)) = some x4 := (hf 4 _ rfl).trans h4
  rw [c36'] at e4
  have e5 : DataW.trod enc Try.prog W 0 (fun _ => true) true m 23 (([c0, c1, c2, c3, c4, c5].drop 5).take (Try.prog.cellsOf 23)) = some x5 := (hf 5 _ rfl).trans h5
  rw [c23'] at e5
  obtain ⟨kd, g0, _⟩ := DataW.trod_int Try.underlying3 e0
  obtain ⟨ep, g1, _⟩ := DataW.trod_int Try.underlying3 e1
  obtain ⟨k, g2, _⟩ := DataW.trod_int Try.underlying3 e2
  obtain ⟨at', g3, _⟩ := DataW.trod_int Try.underlying3 e3
  obtain ⟨qb, cb, lb, g4, _, _, _, _⟩ := open_ints_rd Try.underlying31 Try.underlying3 c3' e4
  obtain ⟨qk, ck, lk, g5, _, _, hk⟩ := open_bools_rd' Try.underlying23 Try.underlying4 c4' e5
  refine ⟨⟨kd, ep, k, at', qb, lb.length, cb, qk, lk.length, ck⟩, ?_, rfl, trivial⟩
  have g0 : [c0] = [int kd] := g0
  have g1 : [c1] = [int ep] := g1
  have g2 : [c2] = [int k] := g2
  have g3 : [c3] = [int at'] := g3
  have g4 : [c4] = [.slice qb lb.length cb] := g4
  have g5 : [c5] = [.slice qk lk.length ck] := g5
  cases g0; cases g1; cases g2; cases g3; cases g4; cases g5
  rfl
end Go.Proofs.Ytoljbocejclaeaa
