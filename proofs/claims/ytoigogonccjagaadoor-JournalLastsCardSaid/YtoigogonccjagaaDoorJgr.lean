/- Journals: the law of groups. -/
import Derived.Test.YtoigogonccjagaaDoorJn
import Derived.Test.YtoigogonccjagaaDoorJm
set_option linter.unusedVariables false
set_option linter.unusedSimpArgs false
namespace Go.Proofs.YtoigogonccjagaaDoor
open Go Go.Sl Go.Jn Go.ChangeShapes Go.WideShapes
attribute [local irreducible] LooksAt sumB sumF recsB

theorem MC.cut1S {σ : Type} {X : Cx} {ds : List Deferred} {it : It} {k : List It} {fr : Fr} {w : World} (F : σ → Fr) (I : σ → World → Prop) (hn : noOps [it] = true) (h2 : ∀ s w', I s w' → MC X ds k (F s) w')
    (h1 : MC X ds (it :: .goal (fun a' w' => ∃ s, Fits X.n ds (F s) a' ∧ I s w') :: k) fr w) : MC X ds (it :: k) fr w := MC.cutAtS (k := it :: k) 1 F I hn h2 h1
theorem MC.cut1 {X : Cx} {ds : List Deferred} {it : It} {k : List It} {fr : Fr} {w : World} (fr' : Fr) (I : World → Prop) (hn : noOps [it] = true) (h2 : ∀ w', I w' → MC X ds k fr' w')
    (h1 : MC X ds (it :: .goal (fun a' w' => Fits X.n ds fr' a' ∧ I w') :: k) fr w) : MC X ds (it :: k) fr w := MC.cutAt (k := it :: k) 1 fr' I hn h2 h1
/-- The bodies alone. -/
def bd (l : List (Value × Bs)) : List Bs := l.map (·.2)
@[simp] theorem bd_length (l : List (Value × Bs)) : (bd l).length = l.length := by simp [bd]
theorem bd_app (l m : List (Value × Bs)) : bd (l ++ m) = bd l ++ bd m := by simp [bd]
theorem bd_one (v : Value) (b : Bs) : bd [(v, b)] = [b] := rfl
theorem rows1_get {α : Type} (row : α → List Value) (f : α → Value) (hrow : ∀ y, row y = [f y]) (ls : List α) (i : Nat) (h : i < ls.length) : (ls.flatMap row)[((i : Nat) : Int).toNat * 1]? = some (f ls[i]) := by
  rw [Int.toNat_natCast, Nat.mul_one]
  have e : ls.flatMap row = ls.map f := by
    have : row = fun y => [f y] := funext hrow
    rw [this, flat_one]
  rw [e]; simp [h]
theorem hd_ones {F : List Assn} {l : List (Value × Bs)} (h : ∀ x ∈ l, RdS F 1 x.1 x.2.length (bytesV x.2)) : ∀ u ∈ hd l, u.oneCell' = true := by
  intro u hu
  obtain ⟨x, hx, rfl⟩ := List.mem_map.1 hu
  obtain ⟨q, c, e, _⟩ := (h x hx).shape
  rw [e]; rfl
set_option maxHeartbeats 8000000 in
theorem groups_walk {F : List Assn} {w : World} {vl vc : Value} {bodies : List BdR} {commits : List Bool} (hs : Sat F w) (hl : RdS F 1 vl bodies.length (bodies.flatMap BdR.row)) (hok : ∀ y ∈ bodies, y.ok F) (hc : RdS F 1 vc commits.length (boolsV commits))
    (hfew : bodies.length ≤ 9223372036854775807) (hfew2 : commits.length ≤ 9223372036854775807) :
    Ret Tryd.prog 5 [vl, vc] w fun v w' => v = bool true ∧ Sat F w' := by
  obtain ⟨ql, cl, rfl, hcl, _⟩ := hl.shape
  obtain ⟨qc, cc, rfl, hcc, _⟩ := hc.shape
  have hwk := works_spec hs
  refine Ret.enter [(true, .slice ql bodies.length cl), (true, .slice qc commits.length cc)] _ Tryd.func5 rfl Tryd.ntmps5 rfl ?_
  repeat (first | (refine MC.run1 tab 1000 rfl rfl (by first | exact True.intro | (simp only [Conds, rng, Int.toNat_natCast, List.length_append, bytesV_length] <;> omega) | (simp [Conds, rng] <;> omega) | (simp only [Conds, rng, wrap_u8, wrap_u16, wrap_u32, wrap_u64] <;> omega)) ?_) | (refine MC.la true (la_load1 hs rfl (by rfl)) rfl ?_) | (refine MC.part rfl rfl (fun h => absurd h (by first | decide | omega)) (fun _ => ?_)) | (refine MC.part rfl rfl (fun _ => ?_) (fun h => absurd (by first | decide | omega) h)) | (refine MC.cond rfl (fun h => absurd h (by first | decide | omega)) (fun _ => ?_)) | (refine MC.cond rfl (fun _ => ?_) (fun h => absurd (by first | decide | omega) h)))
  refine MC.does true (does_call rfl (hwk)) rfl ?_
  rintro _ w ⟨rfl, hs⟩
  have hbg := began_spec hs
  repeat (first | (refine MC.run1 tab 1000 rfl rfl (by first | exact True.intro | (simp only [Conds, rng, Int.toNat_natCast, List.length_append, bytesV_length] <;> omega) | (simp [Conds, rng] <;> omega) | (simp only [Conds, rng, wrap_u8, wrap_u16, wrap_u32, wrap_u64] <;> omega)) ?_) | (refine MC.la true (la_load1 hs rfl (by rfl)) rfl ?_) | (refine MC.part rfl rfl (fun h => absurd h (by first | decide | omega)) (fun _ => ?_)) | (refine MC.part rfl rfl (fun _ => ?_) (fun h => absurd (by first | decide | omega) h)) | (refine MC.cond rfl (fun h => absurd h (by first | decide | omega)) (fun _ => ?_)) | (refine MC.cond rfl (fun _ => ?_) (fun h => absurd (by first | decide | omega) h)))
  refine MC.does true (does_call rfl (hbg)) rfl ?_
  rintro _ w ⟨p, r, D0, rfl, hD0, hl0, hs⟩
  repeat (first | (refine MC.run1 tab 1000 rfl rfl (by first | exact True.intro | (simp only [Conds, rng, Int.toNat_natCast, List.length_append, bytesV_length] <;> omega) | (simp [Conds, rng] <;> omega) | (simp only [Conds, rng, wrap_u8, wrap_u16, wrap_u32, wrap_u64] <;> omega)) ?_) | (refine MC.la true (la_load1 hs rfl (by rfl)) rfl ?_) | (refine MC.part rfl rfl (fun h => absurd h (by first | decide | omega)) (fun _ => ?_)) | (refine MC.part rfl rfl (fun _ => ?_) (fun h => absurd (by first | decide | omega) h)) | (refine MC.cond rfl (fun h => absurd h (by first | decide | omega)) (fun _ => ?_)) | (refine MC.cond rfl (fun _ => ?_) (fun h => absurd (by first | decide | omega) h)))
  have hs : Sat (dev p D0 :: jk r p 2 (bd []) (bd []) :: sl (.slice none 0 0) 22 1 ([] : List (Value × Bs)).length (hd []) :: sl (.slice none 0 0) 22 1 ([] : List (Value × Bs)).length (hd []) :: F) w := ((hs.sl_nil 22 1).sl_nil 22 1).pickF 4 [2, 3, 0, 1] rfl rfl
  refine MC.loop (σ := Nat × List (Value × Bs) × List (Value × Bs) × Value × Value) (fun x => [(0, true, .slice ql bodies.length cl), (1, true, .slice qc commits.length cc), (5, true, ptr p), (6, true, ptr r), (7, true, x.2.2.2.1), (8, true, x.2.2.2.2), (9, true, int ((szB (bd x.2.1) : Nat) : Int)), (10, true, int ((szB (bd x.2.2.1) : Nat) : Int)), (11, true, int ((x.1 : Nat) : Int))])
    (fun x w => x.1 ≤ bodies.length ∧ (∀ y ∈ x.2.1 ++ x.2.2.1, RdS F 1 y.1 y.2.length (bytesV y.2)) ∧ szB (bd x.2.1 ++ bd x.2.2.1) ≤ 1536 ∧ ∃ D, Dok D ∧ lies D (recsB 2 1 (bd x.2.1)) ∧ Sat (dev p D :: jk r p 2 (bd x.2.1) (bd x.2.2.1) :: sl x.2.2.2.1 22 1 x.2.1.length (hd x.2.1) :: sl x.2.2.2.2 22 1 x.2.2.1.length (hd x.2.2.1) :: F) w)
    (fun x => bodies.length - x.1) (0, [], [], .slice none 0 0, .slice none 0 0) (by repeat (first | exact trivial | refine ⟨rfl, ?_⟩)) ⟨Nat.zero_le _, fun y hy => absurd hy (by simp), by decide, D0, hD0, (by show lies D0 (recsB 2 1 []); unfold recsB; exact hl0), hs⟩ ?_
  rintro ⟨i, all, grp, va, vg⟩ w hx
  clear hs
  replace hx : i ≤ bodies.length ∧ (∀ y ∈ all ++ grp, RdS F 1 y.1 y.2.length (bytesV y.2)) ∧ szB (bd all ++ bd grp) ≤ 1536 ∧ ∃ D, Dok D ∧ lies D (recsB 2 1 (bd all)) ∧ Sat (dev p D :: jk r p 2 (bd all) (bd grp) :: sl va 22 1 all.length (hd all) :: sl vg 22 1 grp.length (hd grp) :: F) w := hx
  obtain ⟨hi, hrd, hsz, D, hD, hl1, hs⟩ := hx
  obtain ⟨-, qa, ca, rfl, -⟩ := (hs.pull 2 rfl).sl_len
  obtain ⟨-, qg, cg, rfl, -⟩ := (hs.pull 3 rfl).sl_len
  dsimp only []
  have hsa := szB_app (bd all) (bd grp)
  have hn1 := szB_few (bd all ++ bd grp)
  rw [List.length_append, bd_length, bd_length] at hn1
  rcases Nat.lt_or_ge i bodies.length with hlt | hge
  rotate_left
  · repeat (first | (refine MC.run1 tab 1000 rfl rfl (by first | exact True.intro | (simp only [Conds, rng, Int.toNat_natCast, List.length_append, bytesV_length] <;> omega) | (simp [Conds, rng] <;> omega) | (simp only [Conds, rng, wrap_u8, wrap_u16, wrap_u32, wrap_u64] <;> omega)) ?_) | (refine MC.la true (la_load1 hs rfl (by rfl)) rfl ?_) | (refine MC.part rfl rfl (fun h => absurd h (by first | decide | omega)) (fun _ => ?_)) | (refine MC.part rfl rfl (fun _ => ?_) (fun h => absurd (by first | decide | omega) h)) | (refine MC.cond rfl (fun h => absurd h (by first | decide | omega)) (fun _ => ?_)) | (refine MC.cond rfl (fun _ => ?_) (fun h => absurd (by first | decide | omega) h)))
    refine MC.ret rfl ?_
    exact ⟨rfl, hs.tail.tail.tail.tail⟩
  rcases Nat.lt_or_ge i 30 with h30 | h30
  rotate_left
  · repeat (first | (refine MC.run1 tab 1000 rfl rfl (by first | exact True.intro | (simp only [Conds, rng, Int.toNat_natCast, List.length_append, bytesV_length] <;> omega) | (simp [Conds, rng] <;> omega) | (simp only [Conds, rng, wrap_u8, wrap_u16, wrap_u32, wrap_u64] <;> omega)) ?_) | (refine MC.la true (la_load1 hs rfl (by rfl)) rfl ?_) | (refine MC.part rfl rfl (fun h => absurd h (by first | decide | omega)) (fun _ => ?_)) | (refine MC.part rfl rfl (fun _ => ?_) (fun h => absurd (by first | decide | omega) h)) | (refine MC.cond rfl (fun h => absurd h (by first | decide | omega)) (fun _ => ?_)) | (refine MC.cond rfl (fun _ => ?_) (fun h => absurd (by first | decide | omega) h)))
    refine MC.ret rfl ?_
    exact ⟨rfl, hs.tail.tail.tail.tail⟩
  obtain ⟨bl, ol, rfl, hrl⟩ := hl.at_ (by omega)
  have hyat := rows1_get BdR.row (fun y => .slice y.q y.l.length y.c) (fun _ => rfl) bodies i hlt
  have hy := hok _ (List.getElem_mem hlt)
  obtain ⟨⟨qy, cy, ly⟩, hyy⟩ : ∃ y, bodies[i] = y := ⟨_, rfl⟩
  rw [hyy] at hyat hy
  have hyr : RdS F 1 (.slice qy ly.length cy) ly.length (bytesV ly) := hy.h
  have hyf : ly.length ≤ 9223372036854775807 := hy.few
  have hcy : ly.length ≤ cy := by obtain ⟨_, _, e, h, _⟩ := hyr.shape; injection e with _ _ e; omega
  clear hy hyy
  obtain ⟨N, hN⟩ : ∃ N, min ly.length 300 = N := ⟨_, rfl⟩
  have hbr := hyr.subHi (b := N) (by omega)
  obtain ⟨b, hbb⟩ : ∃ b, ly.take N = b := ⟨_, rfl⟩
  have hbl : b.length = N := by rw [← hbb, List.length_take]; omega
  rw [hbb] at hbr
  have hN3 : N ≤ 300 := by omega
  repeat (first | (refine MC.run1 tab 1000 rfl rfl (by first | exact True.intro | (simp only [Conds, rng, Int.toNat_natCast, List.length_append, bytesV_length] <;> omega) | (simp [Conds, rng] <;> omega) | (simp only [Conds, rng, wrap_u8, wrap_u16, wrap_u32, wrap_u64] <;> omega)) ?_) | (refine MC.la true (la_load1 hs rfl (by rfl)) rfl ?_) | (refine MC.part rfl rfl (fun h => absurd h (by first | decide | omega)) (fun _ => ?_)) | (refine MC.part rfl rfl (fun _ => ?_) (fun h => absurd (by first | decide | omega) h)) | (refine MC.cond rfl (fun h => absurd h (by first | decide | omega)) (fun _ => ?_)) | (refine MC.cond rfl (fun _ => ?_) (fun h => absurd (by first | decide | omega) h)))
  refine MC.la true (la_load1_rd hrl hs (j := ((i : Nat) : Int).toNat * 1) rfl hyat) rfl ?_
  repeat (first | (refine MC.run1 tab 1000 rfl rfl (by first | exact True.intro | (simp only [Conds, rng, Int.toNat_natCast, List.length_append, bytesV_length] <;> omega) | (simp [Conds, rng] <;> omega) | (simp only [Conds, rng, wrap_u8, wrap_u16, wrap_u32, wrap_u64] <;> omega)) ?_) | (refine MC.la true (la_load1 hs rfl (by rfl)) rfl ?_) | (refine MC.part rfl rfl (fun h => absurd h (by first | decide | omega)) (fun _ => ?_)) | (refine MC.part rfl rfl (fun _ => ?_) (fun h => absurd (by first | decide | omega) h)) | (refine MC.cond rfl (fun h => absurd h (by first | decide | omega)) (fun _ => ?_)) | (refine MC.cond rfl (fun _ => ?_) (fun h => absurd (by first | decide | omega) h)))
  refine MC.cut1 [(0, true, .slice (some ⟨bl, ol, none⟩) bodies.length cl), (1, true, .slice qc commits.length cc), (5, true, ptr p), (6, true, ptr r), (7, true, .slice qa all.length ca), (8, true, .slice qg grp.length cg), (9, true, int ((szB (bd all) : Nat) : Int)), (10, true, int ((szB (bd grp) : Nat) : Int)), (11, true, int ((i : Nat) : Int)), (12, true, .slice qy N cy)] (fun w => Sat (dev p D :: jk r p 2 (bd all) (bd grp) :: sl (.slice qa all.length ca) 22 1 all.length (hd all) :: sl (.slice qg grp.length cg) 22 1 grp.length (hd grp) :: F) w) rfl (fun w hs => ?_) ?_
  rotate_left
  · (try dsimp only [List.drop_succ_cons, List.drop_zero, List.take_succ_cons, List.take_zero, List.cons_append, List.nil_append])
    rcases Nat.lt_or_ge 300 ly.length with h | h
    · have e : N = 300 := by omega
      subst e
      repeat (first | (refine MC.run1 tab 1000 rfl rfl (by first | exact True.intro | (simp only [Conds, rng, Int.toNat_natCast, List.length_append, bytesV_length] <;> omega) | (simp [Conds, rng] <;> omega) | (simp only [Conds, rng, wrap_u8, wrap_u16, wrap_u32, wrap_u64] <;> omega)) ?_) | (refine MC.la true (la_load1 hs rfl (by rfl)) rfl ?_) | (refine MC.part rfl rfl (fun h => absurd h (by first | decide | omega)) (fun _ => ?_)) | (refine MC.part rfl rfl (fun _ => ?_) (fun h => absurd (by first | decide | omega) h)) | (refine MC.cond rfl (fun h => absurd h (by first | decide | omega)) (fun _ => ?_)) | (refine MC.cond rfl (fun _ => ?_) (fun h => absurd (by first | decide | omega) h)))
      refine MC.pure (f := true) (po_slice_hi (b := 300) rfl rfl (by omega)) rfl ?_
      repeat (first | (refine MC.run1 tab 1000 rfl rfl (by first | exact True.intro | (simp only [Conds, rng, Int.toNat_natCast, List.length_append, bytesV_length] <;> omega) | (simp [Conds, rng] <;> omega) | (simp only [Conds, rng, wrap_u8, wrap_u16, wrap_u32, wrap_u64] <;> omega)) ?_) | (refine MC.la true (la_load1 hs rfl (by rfl)) rfl ?_) | (refine MC.part rfl rfl (fun h => absurd h (by first | decide | omega)) (fun _ => ?_)) | (refine MC.part rfl rfl (fun _ => ?_) (fun h => absurd (by first | decide | omega) h)) | (refine MC.cond rfl (fun h => absurd h (by first | decide | omega)) (fun _ => ?_)) | (refine MC.cond rfl (fun _ => ?_) (fun h => absurd (by first | decide | omega) h)))
      exact MC.meet (by repeat (first | exact trivial | refine ⟨rfl, ?_⟩)) hs
    · have e : N = ly.length := by omega
      subst e
      repeat (first | (refine MC.run1 tab 1000 rfl rfl (by first | exact True.intro | (simp only [Conds, rng, Int.toNat_natCast, List.length_append, bytesV_length] <;> omega) | (simp [Conds, rng] <;> omega) | (simp only [Conds, rng, wrap_u8, wrap_u16, wrap_u32, wrap_u64] <;> omega)) ?_) | (refine MC.la true (la_load1 hs rfl (by rfl)) rfl ?_) | (refine MC.part rfl rfl (fun h => absurd h (by first | decide | omega)) (fun _ => ?_)) | (refine MC.part rfl rfl (fun _ => ?_) (fun h => absurd (by first | decide | omega) h)) | (refine MC.cond rfl (fun h => absurd h (by first | decide | omega)) (fun _ => ?_)) | (refine MC.cond rfl (fun _ => ?_) (fun h => absurd (by first | decide | omega) h)))
      exact MC.meet (by repeat (first | exact trivial | refine ⟨rfl, ?_⟩)) hs
  (try dsimp only [List.drop_succ_cons, List.drop_zero, List.take_succ_cons, List.take_zero, List.cons_append, List.nil_append])
  obtain ⟨fits, hfits⟩ : ∃ fits, decide (szB (bd all ++ bd grp) + (14 + N) ≤ 1536) = fits := ⟨_, rfl⟩
  obtain ⟨en, hen⟩ : ∃ en, addN (szB (bd all ++ bd grp)) b = en := ⟨_, rfl⟩
  have hen1 : fits = true → en = 0 := fun h => by
    rw [h] at hfits
    rw [← hen]; exact addN_zero.2 (by rw [hbl]; exact of_decide_eq_true hfits)
  have hen2 : fits = false → en = 190 := fun h => by
    rw [h] at hfits
    have := of_decide_eq_false hfits
    rw [← hen]; unfold addN
    rw [if_neg (by omega), hbl, if_pos (by omega)]
  have hs := hs.swap
  have hja := jadd_spec (vb := .slice qy N cy) hs (by rw [hbl]; exact RdS.up hbr) (by omega)
  rw [hen, hbl] at hja
  have e48 : decide (((szB (bd all) : Nat) : Int) + ((szB (bd grp) : Nat) : Int) + 14 + ((N : Nat) : Int) ≤ 1536) = fits := by
    rw [← hfits]; exact decide_eq_decide.2 (by omega)
  repeat (first | (refine MC.run1 tab 1000 rfl rfl (by first | exact True.intro | (simp only [Conds, rng, Int.toNat_natCast, List.length_append, bytesV_length] <;> omega) | (simp [Conds, rng] <;> omega) | (simp only [Conds, rng, wrap_u8, wrap_u16, wrap_u32, wrap_u64] <;> omega)) ?_) | (refine MC.la true (la_load1 hs rfl (by rfl)) rfl ?_) | (refine MC.part rfl rfl (fun h => absurd h (by first | decide | omega)) (fun _ => ?_)) | (refine MC.part rfl rfl (fun _ => ?_) (fun h => absurd (by first | decide | omega) h)) | (refine MC.cond rfl (fun h => absurd h (by first | decide | omega)) (fun _ => ?_)) | (refine MC.cond rfl (fun _ => ?_) (fun h => absurd (by first | decide | omega) h)))
  rw [e48]
  refine MC.does true (does_call rfl (hja)) rfl ?_
  rintro _ w ⟨rfl, hs⟩
  refine MC.run1 tab 3 rfl rfl (by first | exact True.intro | (simp only [Conds, rng, Int.toNat_natCast, List.length_append, bytesV_length] <;> omega) | (simp [Conds, rng] <;> omega) | (simp only [Conds, rng, wrap_u8, wrap_u16, wrap_u32, wrap_u64] <;> omega)) ?_
  refine MC.cut1 [(0, true, .slice (some ⟨bl, ol, none⟩) bodies.length cl), (1, true, .slice qc commits.length cc), (5, true, ptr p), (6, true, ptr r), (7, true, .slice qa all.length ca), (8, true, .slice qg grp.length cg), (9, true, int ((szB (bd all) : Nat) : Int)), (10, true, int ((szB (bd grp) : Nat) : Int)), (11, true, int ((i : Nat) : Int)), (12, true, .slice qy N cy), (13, true, bool fits)] (fun w => Sat (jk r p 2 (bd all) (if szB (bd all ++ bd grp) + (14 + N) ≤ 1536 then bd grp ++ [b] else bd grp) :: dev p D :: sl (.slice qa all.length ca) 22 1 all.length (hd all) :: sl (.slice qg grp.length cg) 22 1 grp.length (hd grp) :: F) w) rfl (fun w hs => ?_) ?_
  rotate_left
  · (try dsimp only [List.drop_succ_cons, List.drop_zero, List.take_succ_cons, List.take_zero, List.cons_append, List.nil_append])
    cases fits
    · obtain rfl : en = 190 := hen2 rfl
      repeat (first | (refine MC.run1 tab 1000 rfl rfl (by first | exact True.intro | (simp only [Conds, rng, Int.toNat_natCast, List.length_append, bytesV_length] <;> omega) | (simp [Conds, rng] <;> omega) | (simp only [Conds, rng, wrap_u8, wrap_u16, wrap_u32, wrap_u64] <;> omega)) ?_) | (refine MC.la true (la_load1 hs rfl (by rfl)) rfl ?_) | (refine MC.part rfl rfl (fun h => absurd h (by first | decide | omega)) (fun _ => ?_)) | (refine MC.part rfl rfl (fun _ => ?_) (fun h => absurd (by first | decide | omega) h)) | (refine MC.cond rfl (fun h => absurd h (by first | decide | omega)) (fun _ => ?_)) | (refine MC.cond rfl (fun _ => ?_) (fun h => absurd (by first | decide | omega) h)))
      refine MC.pure (f := true) (v := bool false) (po_bin rfl rfl br_bool_ne) rfl ?_
      repeat (first | (refine MC.run1 tab 1000 rfl rfl (by first | exact True.intro | (simp only [Conds, rng, Int.toNat_natCast, List.length_append, bytesV_length] <;> omega) | (simp [Conds, rng] <;> omega) | (simp only [Conds, rng, wrap_u8, wrap_u16, wrap_u32, wrap_u64] <;> omega)) ?_) | (refine MC.la true (la_load1 hs rfl (by rfl)) rfl ?_) | (refine MC.part rfl rfl (fun h => absurd h (by first | decide | omega)) (fun _ => ?_)) | (refine MC.part rfl rfl (fun _ => ?_) (fun h => absurd (by first | decide | omega) h)) | (refine MC.cond rfl (fun h => absurd h (by first | decide | omega)) (fun _ => ?_)) | (refine MC.cond rfl (fun _ => ?_) (fun h => absurd (by first | decide | omega) h)))
      exact MC.meet (by repeat (first | exact trivial | refine ⟨rfl, ?_⟩)) hs
    · obtain rfl : en = 0 := hen1 rfl
      repeat (first | (refine MC.run1 tab 1000 rfl rfl (by first | exact True.intro | (simp only [Conds, rng, Int.toNat_natCast, List.length_append, bytesV_length] <;> omega) | (simp [Conds, rng] <;> omega) | (simp only [Conds, rng, wrap_u8, wrap_u16, wrap_u32, wrap_u64] <;> omega)) ?_) | (refine MC.la true (la_load1 hs rfl (by rfl)) rfl ?_) | (refine MC.part rfl rfl (fun h => absurd h (by first | decide | omega)) (fun _ => ?_)) | (refine MC.part rfl rfl (fun _ => ?_) (fun h => absurd (by first | decide | omega) h)) | (refine MC.cond rfl (fun h => absurd h (by first | decide | omega)) (fun _ => ?_)) | (refine MC.cond rfl (fun _ => ?_) (fun h => absurd (by first | decide | omega) h)))
      refine MC.pure (f := true) (v := bool false) (po_bin rfl rfl br_bool_ne) rfl ?_
      repeat (first | (refine MC.run1 tab 1000 rfl rfl (by first | exact True.intro | (simp only [Conds, rng, Int.toNat_natCast, List.length_append, bytesV_length] <;> omega) | (simp [Conds, rng] <;> omega) | (simp only [Conds, rng, wrap_u8, wrap_u16, wrap_u32, wrap_u64] <;> omega)) ?_) | (refine MC.la true (la_load1 hs rfl (by rfl)) rfl ?_) | (refine MC.part rfl rfl (fun h => absurd h (by first | decide | omega)) (fun _ => ?_)) | (refine MC.part rfl rfl (fun _ => ?_) (fun h => absurd (by first | decide | omega) h)) | (refine MC.cond rfl (fun h => absurd h (by first | decide | omega)) (fun _ => ?_)) | (refine MC.cond rfl (fun _ => ?_) (fun h => absurd (by first | decide | omega) h)))
      refine MC.splitB (t := 60) (b := false) rfl (fun h => absurd h (by decide)) (fun _ => ?_)
      repeat (first | (refine MC.run1 tab 1000 rfl rfl (by first | exact True.intro | (simp only [Conds, rng, Int.toNat_natCast, List.length_append, bytesV_length] <;> omega) | (simp [Conds, rng] <;> omega) | (simp only [Conds, rng, wrap_u8, wrap_u16, wrap_u32, wrap_u64] <;> omega)) ?_) | (refine MC.la true (la_load1 hs rfl (by rfl)) rfl ?_) | (refine MC.part rfl rfl (fun h => absurd h (by first | decide | omega)) (fun _ => ?_)) | (refine MC.part rfl rfl (fun _ => ?_) (fun h => absurd (by first | decide | omega) h)) | (refine MC.cond rfl (fun h => absurd h (by first | decide | omega)) (fun _ => ?_)) | (refine MC.cond rfl (fun _ => ?_) (fun h => absurd (by first | decide | omega) h)))
      exact MC.meet (by repeat (first | exact trivial | refine ⟨rfl, ?_⟩)) hs
  refine MC.run1 tab 1 rfl rfl (by first | exact True.intro | (simp only [Conds, rng, Int.toNat_natCast, List.length_append, bytesV_length] <;> omega) | (simp [Conds, rng] <;> omega) | (simp only [Conds, rng, wrap_u8, wrap_u16, wrap_u32, wrap_u64] <;> omega)) ?_
  refine MC.cut1S (σ := List (Value × Bs) × Value) (fun x => [(0, true, .slice (some ⟨bl, ol, none⟩) bodies.length cl), (1, true, .slice qc commits.length cc), (5, true, ptr p), (6, true, ptr r), (7, true, .slice qa all.length ca), (8, true, x.2), (9, true, int ((szB (bd all) : Nat) : Int)), (10, true, int ((szB (bd x.1) : Nat) : Int)), (11, true, int ((i : Nat) : Int))]) (fun x w => (∀ y ∈ all ++ x.1, RdS F 1 y.1 y.2.length (bytesV y.2)) ∧ szB (bd all ++ bd x.1) ≤ 1536 ∧ Sat (dev p D :: jk r p 2 (bd all) (bd x.1) :: sl (.slice qa all.length ca) 22 1 all.length (hd all) :: sl x.2 22 1 x.1.length (hd x.1) :: F) w) rfl ?_ ?_
  rotate_left
  · (try dsimp only [List.drop_succ_cons, List.drop_zero, List.take_succ_cons, List.take_zero, List.cons_append, List.nil_append])
    cases fits with
    | true =>
      have hle := of_decide_eq_true hfits
      rw [if_pos hle] at hs
      repeat (first | (refine MC.run1 tab 1000 rfl rfl (by first | exact True.intro | (simp only [Conds, rng, Int.toNat_natCast, List.length_append, bytesV_length] <;> omega) | (simp [Conds, rng] <;> omega) | (simp only [Conds, rng, wrap_u8, wrap_u16, wrap_u32, wrap_u64] <;> omega)) ?_) | (refine MC.la true (la_load1 hs rfl (by rfl)) rfl ?_) | (refine MC.part rfl rfl (fun h => absurd h (by first | decide | omega)) (fun _ => ?_)) | (refine MC.part rfl rfl (fun _ => ?_) (fun h => absurd (by first | decide | omega) h)) | (refine MC.cond rfl (fun h => absurd h (by first | decide | omega)) (fun _ => ?_)) | (refine MC.cond rfl (fun _ => ?_) (fun h => absurd (by first | decide | omega) h)))
      refine MC.does true (does_buildL hs rfl rfl rfl (by first | (intro u hu; simp only [List.mem_cons, List.not_mem_nil, or_false] at hu; rcases hu with rfl | rfl | rfl | rfl | rfl | rfl | rfl | rfl <;> rfl) | (intro u hu; simp only [List.mem_cons, List.not_mem_nil, or_false] at hu; rcases hu with rfl | rfl | rfl | rfl <;> rfl) | (intro u hu; simp only [List.mem_cons, List.not_mem_nil, or_false] at hu; rcases hu with rfl | rfl <;> rfl) | (intro u hu; simp only [List.mem_cons, List.not_mem_nil, or_false] at hu; subst hu; rfl)) rfl) rfl ?_; rintro _ w ⟨b1, rfl, hs⟩
      refine MC.does true (does_append hs rfl rfl (src_at rfl (by first | (intro u hu; simp only [List.mem_cons, List.not_mem_nil, or_false] at hu; rcases hu with rfl | rfl | rfl | rfl | rfl | rfl | rfl | rfl <;> rfl) | (intro u hu; simp only [List.mem_cons, List.not_mem_nil, or_false] at hu; rcases hu with rfl | rfl | rfl | rfl <;> rfl) | (intro u hu; simp only [List.mem_cons, List.not_mem_nil, or_false] at hu; rcases hu with rfl | rfl <;> rfl) | (intro u hu; simp only [List.mem_cons, List.not_mem_nil, or_false] at hu; subst hu; rfl))) (by omega) (by omega)) rfl ?_
      intro vn w hs
      have hs := hs.tail
      repeat (first | (refine MC.run1 tab 1000 rfl rfl (by first | exact True.intro | (simp only [Conds, rng, Int.toNat_natCast, List.length_append, bytesV_length] <;> omega) | (simp [Conds, rng] <;> omega) | (simp only [Conds, rng, wrap_u8, wrap_u16, wrap_u32, wrap_u64] <;> omega)) ?_) | (refine MC.la true (la_load1 hs rfl (by rfl)) rfl ?_) | (refine MC.part rfl rfl (fun h => absurd h (by first | decide | omega)) (fun _ => ?_)) | (refine MC.part rfl rfl (fun _ => ?_) (fun h => absurd (by first | decide | omega) h)) | (refine MC.cond rfl (fun h => absurd h (by first | decide | omega)) (fun _ => ?_)) | (refine MC.cond rfl (fun _ => ?_) (fun h => absurd (by first | decide | omega) h)))
      refine MC.meetS (grp ++ [((.slice qy N cy : Value), b)], vn) ?_ ⟨?_, ?_, ?_⟩
      · dsimp only []
        rw [show szB (bd (grp ++ [((.slice qy N cy : Value), b)])) = szB (bd grp) + (14 + N) by rw [bd_app, bd_one, szB_app, szB_one, hbl]]
        have ec : (((szB (bd grp) + (14 + N) : Nat)) : Int) = ((szB (bd grp) : Nat) : Int) + (14 + ((N : Nat) : Int)) := by omega
        rw [ec]
        exact (by repeat (first | exact trivial | refine ⟨rfl, ?_⟩))
      · intro y hy
        rcases List.mem_append.1 hy with h | h
        · exact hrd y (List.mem_append_left _ h)
        · rcases List.mem_append.1 h with h | h
          · exact hrd y (List.mem_append_right _ h)
          · have : y = ((.slice qy N cy : Value), b) := by simpa using h
            subst this
            show RdS F 1 (.slice qy N cy) b.length (bytesV b)
            rw [hbl]; exact hbr
      · show szB (bd all ++ bd (grp ++ [((.slice qy N cy : Value), b)])) ≤ 1536
        rw [bd_app, bd_one, ← List.append_assoc, szB_app, szB_one, hbl]; exact hle
      · show Sat (dev p D :: jk r p 2 (bd all) (bd (grp ++ [((.slice qy N cy : Value), b)])) :: sl (.slice qa all.length ca) 22 1 all.length (hd all) :: sl vn 22 1 (grp ++ [((.slice qy N cy : Value), b)]).length (hd (grp ++ [((.slice qy N cy : Value), b)])) :: F) w
        rw [bd_app, bd_one, hd_app, List.length_append]
        exact hs.swap
    | false =>
      have hle := of_decide_eq_false hfits
      rw [if_neg hle] at hs
      repeat (first | (refine MC.run1 tab 1000 rfl rfl (by first | exact True.intro | (simp only [Conds, rng, Int.toNat_natCast, List.length_append, bytesV_length] <;> omega) | (simp [Conds, rng] <;> omega) | (simp only [Conds, rng, wrap_u8, wrap_u16, wrap_u32, wrap_u64] <;> omega)) ?_) | (refine MC.la true (la_load1 hs rfl (by rfl)) rfl ?_) | (refine MC.part rfl rfl (fun h => absurd h (by first | decide | omega)) (fun _ => ?_)) | (refine MC.part rfl rfl (fun _ => ?_) (fun h => absurd (by first | decide | omega) h)) | (refine MC.cond rfl (fun h => absurd h (by first | decide | omega)) (fun _ => ?_)) | (refine MC.cond rfl (fun _ => ?_) (fun h => absurd (by first | decide | omega) h)))
      exact MC.meetS (grp, .slice qg grp.length cg) (by repeat (first | exact trivial | refine ⟨rfl, ?_⟩)) ⟨hrd, hsz, hs.swap⟩
  clear hs hrd hsz hfits hen hen1 hen2 hja hsa hn1
  rintro ⟨gr2, vg2⟩ w hx
  replace hx : (∀ y ∈ all ++ gr2, RdS F 1 y.1 y.2.length (bytesV y.2)) ∧ szB (bd all ++ bd gr2) ≤ 1536 ∧ Sat (dev p D :: jk r p 2 (bd all) (bd gr2) :: sl (.slice qa all.length ca) 22 1 all.length (hd all) :: sl vg2 22 1 gr2.length (hd gr2) :: F) w := hx
  obtain ⟨hrd, hsz, hs⟩ := hx
  obtain ⟨-, qg2, cg2, rfl, -⟩ := (hs.pull 3 rfl).sl_len
  dsimp only []
  have hsa := szB_app (bd all) (bd gr2)
  have hn1 := szB_few (bd all ++ bd gr2)
  rw [List.length_append, bd_length, bd_length] at hn1
  (try dsimp only [List.drop_succ_cons, List.drop_zero, List.take_succ_cons, List.take_zero, List.cons_append, List.nil_append])
  have hop := open_spec hs hD.ok (by rw [hD.noO]; decide)
  repeat (first | (refine MC.run1 tab 1000 rfl rfl (by first | exact True.intro | (simp only [Conds, rng, Int.toNat_natCast, List.length_append, bytesV_length] <;> omega) | (simp [Conds, rng] <;> omega) | (simp only [Conds, rng, wrap_u8, wrap_u16, wrap_u32, wrap_u64] <;> omega)) ?_) | (refine MC.la true (la_load1 hs rfl (by rfl)) rfl ?_) | (refine MC.part rfl rfl (fun h => absurd h (by first | decide | omega)) (fun _ => ?_)) | (refine MC.part rfl rfl (fun _ => ?_) (fun h => absurd (by first | decide | omega) h)) | (refine MC.cond rfl (fun h => absurd h (by first | decide | omega)) (fun _ => ?_)) | (refine MC.cond rfl (fun _ => ?_) (fun h => absurd (by first | decide | omega) h)))
  refine MC.does true (does_call rfl (hop)) rfl ?_
  rintro vo w hs
  obtain ⟨-, qo, co, rfl, -⟩ := hs.sl_len
  rw [hD.noO] at hs ⊢
  have hs := hs.tail.swap
  have ha1 := jadded_spec hs
  simp only [bd_length, List.length_nil] at ha1
  repeat (first | (refine MC.run1 tab 1000 rfl rfl (by first | exact True.intro | (simp only [Conds, rng, Int.toNat_natCast, List.length_append, bytesV_length] <;> omega) | (simp [Conds, rng] <;> omega) | (simp only [Conds, rng, wrap_u8, wrap_u16, wrap_u32, wrap_u64] <;> omega)) ?_) | (refine MC.la true (la_load1 hs rfl (by rfl)) rfl ?_) | (refine MC.part rfl rfl (fun h => absurd h (by first | decide | omega)) (fun _ => ?_)) | (refine MC.part rfl rfl (fun _ => ?_) (fun h => absurd (by first | decide | omega) h)) | (refine MC.cond rfl (fun h => absurd h (by first | decide | omega)) (fun _ => ?_)) | (refine MC.cond rfl (fun _ => ?_) (fun h => absurd (by first | decide | omega) h)))
  refine MC.does true (does_call rfl (ha1)) rfl ?_
  rintro _ w ⟨rfl, rfl⟩
  have ha2 := jused_spec hs
  repeat (first | (refine MC.run1 tab 1000 rfl rfl (by first | exact True.intro | (simp only [Conds, rng, Int.toNat_natCast, List.length_append, bytesV_length] <;> omega) | (simp [Conds, rng] <;> omega) | (simp only [Conds, rng, wrap_u8, wrap_u16, wrap_u32, wrap_u64] <;> omega)) ?_) | (refine MC.la true (la_load1 hs rfl (by rfl)) rfl ?_) | (refine MC.part rfl rfl (fun h => absurd h (by first | decide | omega)) (fun _ => ?_)) | (refine MC.part rfl rfl (fun _ => ?_) (fun h => absurd (by first | decide | omega) h)) | (refine MC.cond rfl (fun h => absurd h (by first | decide | omega)) (fun _ => ?_)) | (refine MC.cond rfl (fun _ => ?_) (fun h => absurd (by first | decide | omega) h)))
  refine MC.does true (does_call rfl (ha2)) rfl ?_
  rintro _ w ⟨rfl, rfl⟩
  have ha3 := jrecords_spec hs
  repeat (first | (refine MC.run1 tab 1000 rfl rfl (by first | exact True.intro | (simp only [Conds, rng, Int.toNat_natCast, List.length_append, bytesV_length] <;> omega) | (simp [Conds, rng] <;> omega) | (simp only [Conds, rng, wrap_u8, wrap_u16, wrap_u32, wrap_u64] <;> omega)) ?_) | (refine MC.la true (la_load1 hs rfl (by rfl)) rfl ?_) | (refine MC.part rfl rfl (fun h => absurd h (by first | decide | omega)) (fun _ => ?_)) | (refine MC.part rfl rfl (fun _ => ?_) (fun h => absurd (by first | decide | omega) h)) | (refine MC.cond rfl (fun h => absurd h (by first | decide | omega)) (fun _ => ?_)) | (refine MC.cond rfl (fun _ => ?_) (fun h => absurd (by first | decide | omega) h)))
  refine MC.does true (does_call rfl (ha3)) rfl ?_
  rintro vr w ⟨out, ho, hs⟩
  obtain ⟨-, qr, cr, rfl, -⟩ := hs.sl_len
  have hol : out.length = all.length := by have := congrArg List.length ho; rw [List.length_map, bd_length] at this; exact this
  have hrv : RdS (sl (.slice qr out.length cr) 22 1 out.length (hd out) :: bods 5 out :: jk r p 2 (bd all) (bd gr2) :: dev p D :: sl (.slice qa all.length ca) 22 1 all.length (hd all) :: sl (.slice qg2 gr2.length cg2) 22 1 gr2.length (hd gr2) :: F) 1 (.slice qa all.length ca) all.length (hd all) := RdS.up (RdS.of_sl hs.tail.tail.tail.tail)
  have hsame := same_spec (la := out) (lb := all) hs (RdS.of_sl hs) hrv (fun x hx => RdS.up (bods_rd hs.tail hx)) (fun x hx => RdS.up ((fun y hy => hrd y (List.mem_append_left _ hy)) x hx)) (by rw [ho]; rfl) (by omega)
  repeat (first | (refine MC.run1 tab 1000 rfl rfl (by first | exact True.intro | (simp only [Conds, rng, Int.toNat_natCast, List.length_append, bytesV_length] <;> omega) | (simp [Conds, rng] <;> omega) | (simp only [Conds, rng, wrap_u8, wrap_u16, wrap_u32, wrap_u64] <;> omega)) ?_) | (refine MC.la true (la_load1 hs rfl (by rfl)) rfl ?_) | (refine MC.part rfl rfl (fun h => absurd h (by first | decide | omega)) (fun _ => ?_)) | (refine MC.part rfl rfl (fun _ => ?_) (fun h => absurd (by first | decide | omega) h)) | (refine MC.cond rfl (fun h => absurd h (by first | decide | omega)) (fun _ => ?_)) | (refine MC.cond rfl (fun _ => ?_) (fun h => absurd (by first | decide | omega) h)))
  refine MC.does true (does_call rfl (hsame)) rfl ?_
  rintro _ w ⟨rfl, hs⟩
  have hs := hs.tail.tail.swap
  repeat (first | (refine MC.run1 tab 1000 rfl rfl (by first | exact True.intro | (simp only [Conds, rng, Int.toNat_natCast, List.length_append, bytesV_length] <;> omega) | (simp [Conds, rng] <;> omega) | (simp only [Conds, rng, wrap_u8, wrap_u16, wrap_u32, wrap_u64] <;> omega)) ?_) | (refine MC.la true (la_load1 hs rfl (by rfl)) rfl ?_) | (refine MC.part rfl rfl (fun h => absurd h (by first | decide | omega)) (fun _ => ?_)) | (refine MC.part rfl rfl (fun _ => ?_) (fun h => absurd (by first | decide | omega) h)) | (refine MC.cond rfl (fun h => absurd h (by first | decide | omega)) (fun _ => ?_)) | (refine MC.cond rfl (fun _ => ?_) (fun h => absurd (by first | decide | omega) h)))
  rcases Nat.lt_or_ge i commits.length with hic | hic
  · obtain ⟨bc, oc, rfl, hrc⟩ := hc.at_ (by omega)
    have hcat : (boolsV commits)[((i : Nat) : Int).toNat * 1]? = some (bool commits[i]) := by
      rw [Int.toNat_natCast, Nat.mul_one]; simp [boolsV, hic]
    obtain ⟨cm, hcm⟩ : ∃ cm, commits[i] = cm := ⟨_, rfl⟩
    rw [hcm] at hcat
    repeat (first | (refine MC.run1 tab 1000 rfl rfl (by first | exact True.intro | (simp only [Conds, rng, Int.toNat_natCast, List.length_append, bytesV_length] <;> omega) | (simp [Conds, rng] <;> omega) | (simp only [Conds, rng, wrap_u8, wrap_u16, wrap_u32, wrap_u64] <;> omega)) ?_) | (refine MC.la true (la_load1 hs rfl (by rfl)) rfl ?_) | (refine MC.part rfl rfl (fun h => absurd h (by first | decide | omega)) (fun _ => ?_)) | (refine MC.part rfl rfl (fun _ => ?_) (fun h => absurd (by first | decide | omega) h)) | (refine MC.cond rfl (fun h => absurd h (by first | decide | omega)) (fun _ => ?_)) | (refine MC.cond rfl (fun _ => ?_) (fun h => absurd (by first | decide | omega) h)))
    refine MC.la true (la_load1_rd hrc hs (j := ((i : Nat) : Int).toNat * 1) rfl hcat) rfl ?_
    cases cm with
    | true =>
      have hjc := jcommit_spec hs hD hl1
      repeat (first | (refine MC.run1 tab 1000 rfl rfl (by first | exact True.intro | (simp only [Conds, rng, Int.toNat_natCast, List.length_append, bytesV_length] <;> omega) | (simp [Conds, rng] <;> omega) | (simp only [Conds, rng, wrap_u8, wrap_u16, wrap_u32, wrap_u64] <;> omega)) ?_) | (refine MC.la true (la_load1 hs rfl (by rfl)) rfl ?_) | (refine MC.part rfl rfl (fun h => absurd h (by first | decide | omega)) (fun _ => ?_)) | (refine MC.part rfl rfl (fun _ => ?_) (fun h => absurd (by first | decide | omega) h)) | (refine MC.cond rfl (fun h => absurd h (by first | decide | omega)) (fun _ => ?_)) | (refine MC.cond rfl (fun _ => ?_) (fun h => absurd (by first | decide | omega) h)))
      refine MC.does true (does_call rfl (hjc)) rfl ?_
      rintro _ w ⟨rfl, D2, hD2, hl2, hs⟩
      repeat (first | (refine MC.run1 tab 1000 rfl rfl (by first | exact True.intro | (simp only [Conds, rng, Int.toNat_natCast, List.length_append, bytesV_length] <;> omega) | (simp [Conds, rng] <;> omega) | (simp only [Conds, rng, wrap_u8, wrap_u16, wrap_u32, wrap_u64] <;> omega)) ?_) | (refine MC.la true (la_load1 hs rfl (by rfl)) rfl ?_) | (refine MC.part rfl rfl (fun h => absurd h (by first | decide | omega)) (fun _ => ?_)) | (refine MC.part rfl rfl (fun _ => ?_) (fun h => absurd (by first | decide | omega) h)) | (refine MC.cond rfl (fun h => absurd h (by first | decide | omega)) (fun _ => ?_)) | (refine MC.cond rfl (fun _ => ?_) (fun h => absurd (by first | decide | omega) h)))
      have hgone := hd_ones (fun x hx => hrd x (List.mem_append_right _ hx))
      refine MC.does true (does_append hs rfl rfl (RdS.src (RdS.of_sl hs.tail.tail.tail) hgone) (by omega) (by omega)) rfl ?_
      intro va2 w hs
      obtain ⟨-, qa2, ca2, rfl, -⟩ := (hs.pull 2 rfl).sl_len
      have hs := (((hs.pickF 4 [0, 1, 2] rfl rfl).sl_nil 22 1).pickF 4 [1, 2, 3, 0] rfl rfl)
      have eal : all.length + gr2.length = (all ++ gr2).length := by rw [List.length_append]
      rw [← hd_app, ← bd_app, eal] at hs
      rw [← bd_app] at hl2
      obtain ⟨al2, hal2⟩ : ∃ al2, all ++ gr2 = al2 := ⟨_, rfl⟩
      have hsz2 : szB (bd al2) = szB (bd all) + szB (bd gr2) := by rw [← hal2, bd_app, szB_app]
      have hall : al2.length ≤ 1000000 := by rw [← hal2, List.length_append]; omega
      rw [eal]
      rw [hal2] at hs hl2 hrd ⊢
      have hs : Sat (dev p D2 :: jk r p 2 (bd al2) (bd []) :: sl (.slice qa2 al2.length ca2) 22 1 al2.length (hd al2) :: sl (.slice none 0 0) 22 1 ([] : List (Value × Bs)).length (hd []) :: F) w := hs
      have esz : ((szB (bd all) : Nat) : Int) + ((szB (bd gr2) : Nat) : Int) = ((szB (bd al2) : Nat) : Int) := by omega
      refine MC.run1 tab 6 rfl rfl (by first | exact True.intro | (simp only [Conds, rng, Int.toNat_natCast, List.length_append, bytesV_length] <;> omega) | (simp [Conds, rng] <;> omega) | (simp only [Conds, rng, wrap_u8, wrap_u16, wrap_u32, wrap_u64] <;> omega)) ?_
      have hop := open_spec hs hD2.ok (by rw [hD2.noO]; decide)
      repeat (first | (refine MC.run1 tab 1000 rfl rfl (by first | exact True.intro | (simp only [Conds, rng, Int.toNat_natCast, List.length_append, bytesV_length] <;> omega) | (simp [Conds, rng] <;> omega) | (simp only [Conds, rng, wrap_u8, wrap_u16, wrap_u32, wrap_u64] <;> omega)) ?_) | (refine MC.la true (la_load1 hs rfl (by rfl)) rfl ?_) | (refine MC.part rfl rfl (fun h => absurd h (by first | decide | omega)) (fun _ => ?_)) | (refine MC.part rfl rfl (fun _ => ?_) (fun h => absurd (by first | decide | omega) h)) | (refine MC.cond rfl (fun h => absurd h (by first | decide | omega)) (fun _ => ?_)) | (refine MC.cond rfl (fun _ => ?_) (fun h => absurd (by first | decide | omega) h)))
      refine MC.does true (does_call rfl (hop)) rfl ?_
      rintro vo w hs
      obtain ⟨-, qo, co, rfl, -⟩ := hs.sl_len
      rw [hD2.noO] at hs ⊢
      have hs := hs.tail.swap
      have ha1 := jadded_spec hs
      simp only [bd_length, List.length_nil] at ha1
      repeat (first | (refine MC.run1 tab 1000 rfl rfl (by first | exact True.intro | (simp only [Conds, rng, Int.toNat_natCast, List.length_append, bytesV_length] <;> omega) | (simp [Conds, rng] <;> omega) | (simp only [Conds, rng, wrap_u8, wrap_u16, wrap_u32, wrap_u64] <;> omega)) ?_) | (refine MC.la true (la_load1 hs rfl (by rfl)) rfl ?_) | (refine MC.part rfl rfl (fun h => absurd h (by first | decide | omega)) (fun _ => ?_)) | (refine MC.part rfl rfl (fun _ => ?_) (fun h => absurd (by first | decide | omega) h)) | (refine MC.cond rfl (fun h => absurd h (by first | decide | omega)) (fun _ => ?_)) | (refine MC.cond rfl (fun _ => ?_) (fun h => absurd (by first | decide | omega) h)))
      refine MC.does true (does_call rfl (ha1)) rfl ?_
      rintro _ w ⟨rfl, rfl⟩
      have ha2 := jused_spec hs
      repeat (first | (refine MC.run1 tab 1000 rfl rfl (by first | exact True.intro | (simp only [Conds, rng, Int.toNat_natCast, List.length_append, bytesV_length] <;> omega) | (simp [Conds, rng] <;> omega) | (simp only [Conds, rng, wrap_u8, wrap_u16, wrap_u32, wrap_u64] <;> omega)) ?_) | (refine MC.la true (la_load1 hs rfl (by rfl)) rfl ?_) | (refine MC.part rfl rfl (fun h => absurd h (by first | decide | omega)) (fun _ => ?_)) | (refine MC.part rfl rfl (fun _ => ?_) (fun h => absurd (by first | decide | omega) h)) | (refine MC.cond rfl (fun h => absurd h (by first | decide | omega)) (fun _ => ?_)) | (refine MC.cond rfl (fun _ => ?_) (fun h => absurd (by first | decide | omega) h)))
      refine MC.does true (does_call rfl (ha2)) rfl ?_
      rintro _ w ⟨rfl, rfl⟩
      have ha3 := jrecords_spec hs
      repeat (first | (refine MC.run1 tab 1000 rfl rfl (by first | exact True.intro | (simp only [Conds, rng, Int.toNat_natCast, List.length_append, bytesV_length] <;> omega) | (simp [Conds, rng] <;> omega) | (simp only [Conds, rng, wrap_u8, wrap_u16, wrap_u32, wrap_u64] <;> omega)) ?_) | (refine MC.la true (la_load1 hs rfl (by rfl)) rfl ?_) | (refine MC.part rfl rfl (fun h => absurd h (by first | decide | omega)) (fun _ => ?_)) | (refine MC.part rfl rfl (fun _ => ?_) (fun h => absurd (by first | decide | omega) h)) | (refine MC.cond rfl (fun h => absurd h (by first | decide | omega)) (fun _ => ?_)) | (refine MC.cond rfl (fun _ => ?_) (fun h => absurd (by first | decide | omega) h)))
      refine MC.does true (does_call rfl (ha3)) rfl ?_
      rintro vr w ⟨out, ho, hs⟩
      obtain ⟨-, qr, cr, rfl, -⟩ := hs.sl_len
      have hol : out.length = al2.length := by have := congrArg List.length ho; rw [List.length_map, bd_length] at this; exact this
      have hrv : RdS (sl (.slice qr out.length cr) 22 1 out.length (hd out) :: bods 5 out :: jk r p 2 (bd al2) (bd []) :: dev p D2 :: sl (.slice qa2 al2.length ca2) 22 1 al2.length (hd al2) :: sl (.slice none 0 0) 22 1 ([] : List (Value × Bs)).length (hd ([] : List (Value × Bs))) :: F) 1 (.slice qa2 al2.length ca2) al2.length (hd al2) := RdS.up (RdS.of_sl hs.tail.tail.tail.tail)
      have hsame := same_spec (la := out) (lb := al2) hs (RdS.of_sl hs) hrv (fun x hx => RdS.up (bods_rd hs.tail hx)) (fun x hx => RdS.up (hrd x hx)) (by rw [ho]; rfl) (by omega)
      repeat (first | (refine MC.run1 tab 1000 rfl rfl (by first | exact True.intro | (simp only [Conds, rng, Int.toNat_natCast, List.length_append, bytesV_length] <;> omega) | (simp [Conds, rng] <;> omega) | (simp only [Conds, rng, wrap_u8, wrap_u16, wrap_u32, wrap_u64] <;> omega)) ?_) | (refine MC.la true (la_load1 hs rfl (by rfl)) rfl ?_) | (refine MC.part rfl rfl (fun h => absurd h (by first | decide | omega)) (fun _ => ?_)) | (refine MC.part rfl rfl (fun _ => ?_) (fun h => absurd (by first | decide | omega) h)) | (refine MC.cond rfl (fun h => absurd h (by first | decide | omega)) (fun _ => ?_)) | (refine MC.cond rfl (fun _ => ?_) (fun h => absurd (by first | decide | omega) h)))
      refine MC.does true (does_call rfl (hsame)) rfl ?_
      rintro _ w ⟨rfl, hs⟩
      have hs := hs.tail.tail.swap
      repeat (first | (refine MC.run1 tab 1000 rfl rfl (by first | exact True.intro | (simp only [Conds, rng, Int.toNat_natCast, List.length_append, bytesV_length] <;> omega) | (simp [Conds, rng] <;> omega) | (simp only [Conds, rng, wrap_u8, wrap_u16, wrap_u32, wrap_u64] <;> omega)) ?_) | (refine MC.la true (la_load1 hs rfl (by rfl)) rfl ?_) | (refine MC.part rfl rfl (fun h => absurd h (by first | decide | omega)) (fun _ => ?_)) | (refine MC.part rfl rfl (fun _ => ?_) (fun h => absurd (by first | decide | omega) h)) | (refine MC.cond rfl (fun h => absurd h (by first | decide | omega)) (fun _ => ?_)) | (refine MC.cond rfl (fun _ => ?_) (fun h => absurd (by first | decide | omega) h)))
      rw [esz]
      refine MC.again (i + 1, al2, [], .slice qa2 al2.length ca2, .slice none 0 0) (by repeat (first | exact trivial | refine ⟨rfl, ?_⟩)) ⟨hlt, ?_, ?_, D2, hD2, hl2, hs⟩ (by show bodies.length - (i + 1) < bodies.length - i; omega)
      · intro y hy; rw [List.append_nil] at hy; exact hrd y hy
      · show szB (bd al2 ++ []) ≤ 1536
        rw [List.append_nil]; omega
    | false =>
      repeat (first | (refine MC.run1 tab 1000 rfl rfl (by first | exact True.intro | (simp only [Conds, rng, Int.toNat_natCast, List.length_append, bytesV_length] <;> omega) | (simp [Conds, rng] <;> omega) | (simp only [Conds, rng, wrap_u8, wrap_u16, wrap_u32, wrap_u64] <;> omega)) ?_) | (refine MC.la true (la_load1 hs rfl (by rfl)) rfl ?_) | (refine MC.part rfl rfl (fun h => absurd h (by first | decide | omega)) (fun _ => ?_)) | (refine MC.part rfl rfl (fun _ => ?_) (fun h => absurd (by first | decide | omega) h)) | (refine MC.cond rfl (fun h => absurd h (by first | decide | omega)) (fun _ => ?_)) | (refine MC.cond rfl (fun _ => ?_) (fun h => absurd (by first | decide | omega) h)))
      exact MC.again (i + 1, all, gr2, .slice qa all.length ca, .slice qg2 gr2.length cg2) (by repeat (first | exact trivial | refine ⟨rfl, ?_⟩)) ⟨hlt, hrd, hsz, D, hD, hl1, hs⟩ (by show bodies.length - (i + 1) < bodies.length - i; omega)
  · repeat (first | (refine MC.run1 tab 1000 rfl rfl (by first | exact True.intro | (simp only [Conds, rng, Int.toNat_natCast, List.length_append, bytesV_length] <;> omega) | (simp [Conds, rng] <;> omega) | (simp only [Conds, rng, wrap_u8, wrap_u16, wrap_u32, wrap_u64] <;> omega)) ?_) | (refine MC.la true (la_load1 hs rfl (by rfl)) rfl ?_) | (refine MC.part rfl rfl (fun h => absurd h (by first | decide | omega)) (fun _ => ?_)) | (refine MC.part rfl rfl (fun _ => ?_) (fun h => absurd (by first | decide | omega) h)) | (refine MC.cond rfl (fun h => absurd h (by first | decide | omega)) (fun _ => ?_)) | (refine MC.cond rfl (fun _ => ?_) (fun h => absurd (by first | decide | omega) h)))
    exact MC.again (i + 1, all, gr2, .slice qa all.length ca, .slice qg2 gr2.length cg2) (by repeat (first | exact trivial | refine ⟨rfl, ?_⟩)) ⟨hlt, hrd, hsz, D, hD, hl1, hs⟩ (by show bodies.length - (i + 1) < bodies.length - i; omega)
end Go.Proofs.YtoigogonccjagaaDoor
