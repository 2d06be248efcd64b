/- The device: syncing, what is open. -/
import Derived.Test.YtoigogonccjagaaDoorDevc
set_option linter.unusedVariables false
set_option linter.unusedSimpArgs false
namespace Go.Proofs.YtoigogonccjagaaDoor
open Go Go.Sl
attribute [local irreducible] LooksAt

/-- These writes are put into these sectors. -/
def laid (S : List (List UInt8)) (O : List (Nat × List UInt8)) : List (List UInt8) := O.foldl (fun S x => S.set x.1 x.2) S
def Dev.sync (D : Dev) : Dev := { D with S := laid D.S D.O, O := [], fuse := burnt D.fuse }
theorem laid_length (O : List (Nat × List UInt8)) : ∀ S : List (List UInt8), (laid S O).length = S.length := by
  induction O with
  | nil => intro S; rfl
  | cons x O ih => intro S; exact (ih _).trans (by simp)
theorem laid_sec (O : List (Nat × List UInt8)) : ∀ S : List (List UInt8), (∀ s ∈ S, s.length = 256) → (∀ x ∈ O, x.2.length = 256) → ∀ s ∈ laid S O, s.length = 256 := by
  induction O with
  | nil => intro S h _; exact h
  | cons x O ih =>
    intro S h h2
    refine ih _ (fun s hs => ?_) (fun y hy => h2 y (List.mem_cons_of_mem _ hy))
    rcases List.mem_or_eq_of_mem_set hs with h' | rfl
    · exact h s h'
    · exact h2 x List.mem_cons_self
theorem laid_take {S : List (List UInt8)} {O : List (Nat × List UInt8)} {i : Nat} (hi : i < O.length) : laid S (O.take (i + 1)) = (laid S (O.take i)).set (O[i]).1 (O[i]).2 := by
  simp only [laid]
  rw [List.take_add_one, List.getElem?_eq_getElem hi, List.foldl_append]
  rfl
theorem Dev.sync_ok {D : Dev} (hD : D.ok) : D.sync.ok :=
  { pos := by rw [show D.sync.S.length = D.S.length from laid_length _ _]; exact hD.pos
    few := by rw [show D.sync.S.length = D.S.length from laid_length _ _]; exact hD.few
    sec := laid_sec _ _ hD.sec fun x hx => (hD.op x hx).1
    op := fun x hx => by cases hx
    fuse0 := (burnt_ok hD.fuse0 hD.fuse1).1
    fuse1 := (burnt_ok hD.fuse0 hD.fuse1).2 }
theorem opB_length {x : Nat × List UInt8} (h : x.2.length = 256) : (opB x).length = 257 := by simp [opB, h]
theorem opB_one (x : Nat × List UInt8) : ∀ u ∈ opB x, u.oneCell' = true := one_cons (bytesV_one _)
theorem splice_left {a b vs : List Value} {o : Nat} (h : o + vs.length ≤ a.length) : splice (a ++ b) o vs = splice a o vs ++ b := by
  rw [splice_eq _ _ _ (by simp; omega), splice_eq _ _ _ h, List.take_append_of_le_length (by omega), List.drop_append_of_le_length h]
  simp
theorem secV_length {S : List (List UInt8)} (h : ∀ s ∈ S, s.length = 256) : (secV S).length = S.length * 256 := rows_length fun s hs => by simp [h s hs]
theorem sec_splice {S : List (List UInt8)} (h : ∀ s ∈ S, s.length = 256) {k : Nat} (hk : k < S.length) {l : List UInt8} (hl : l.length = 256) (spare : List Value) : splice (secV S ++ spare) (k * 256) (bytesV l) = secV (S.set k l) ++ spare := by
  have e := secV_length h
  rw [splice_left (by rw [e]; simp [hl]; omega)]
  congr 1
  exact rows_splice (f := bytesV) (fun s hs => by simp [h s hs]) hk (by simp [hl])
theorem sync_spec {F : List Assn} {p : Nat} {D : Dev} {w : World} (hs : Sat (dev p D :: F) w) (hD : D.ok) (hO : D.O.length ≤ 100000) :
    Ret Tryd.prog 63 [ptr p] w fun v w' => v = int (D.wrong 0 256) ∧ Sat (dev p (if D.wrong 0 256 = 0 then D.sync else D) :: F) w' := by
  have hready := ready_spec hs hD 0 256
  refine Ret.enter [(true, ptr p)] _ Tryd.func63 rfl Tryd.ntmps63 rfl ?_
  repeat (first | (refine MC.run1 tab 1000 rfl rfl (by first | exact True.intro | (simp only [Conds, rng, Int.toNat_natCast, List.length_append, bytesV_length] <;> omega) | (simp [Conds, rng] <;> omega) | (simp only [Conds, rng, wrap_u8, wrap_u16, wrap_u32, wrap_u64] <;> omega)) ?_) | (refine MC.la true (la_load1 hs rfl (by rfl)) rfl ?_))
  refine MC.does true (does_call rfl (hready)) rfl ?_
  rintro _ w' ⟨rfl, rfl⟩
  repeat (first | (refine MC.run1 tab 1000 rfl rfl (by first | exact True.intro | (simp only [Conds, rng, Int.toNat_natCast, List.length_append, bytesV_length] <;> omega) | (simp [Conds, rng] <;> omega) | (simp only [Conds, rng, wrap_u8, wrap_u16, wrap_u32, wrap_u64] <;> omega)) ?_) | (refine MC.la true (la_load1 hs rfl (by rfl)) rfl ?_))
  refine MC.cond rfl (fun h => ?_) (fun h => ?_)
  · repeat (first | (refine MC.run1 tab 1000 rfl rfl (by first | exact True.intro | (simp only [Conds, rng, Int.toNat_natCast, List.length_append, bytesV_length] <;> omega) | (simp [Conds, rng] <;> omega) | (simp only [Conds, rng, wrap_u8, wrap_u16, wrap_u32, wrap_u64] <;> omega)) ?_) | (refine MC.la true (la_load1 hs rfl (by rfl)) rfl ?_))
    refine MC.ret rfl ?_
    exact ⟨rfl, by rw [if_neg h]; exact hs⟩
  · have h := Decidable.not_not.1 h
    rw [if_pos h]
    obtain ⟨vs, vo, hs⟩ := dev_open hs
    obtain ⟨hsl, qs, cs, rfl, hcs⟩ := (hs.pull 1 rfl).sl_len
    obtain ⟨hol, qo, co, rfl, hco⟩ := (hs.pull 2 rfl).sl_len
    have hpos := hD.pos
    have hfew := hD.few
    rcases (hs.pull 1 rfl).sl_cases with ⟨_, h0, _⟩ | ⟨bs, c, spare, e1, _, _, hsp, hs⟩
    · omega
    injection e1 with e1 _ e2
    subst e1; subst e2
    dsimp only [List.eraseIdx] at hs
    have hr0 : RdS (sl (.slice qo D.O.length co) 83 257 D.O.length (opV D.O) :: F) 257 (.slice qo D.O.length co) D.O.length (opV D.O) := RdS.of_sl (hs.tail.tail)
    repeat (first | (refine MC.run1 tab 1000 rfl rfl (by first | exact True.intro | (simp only [Conds, rng, Int.toNat_natCast, List.length_append, bytesV_length] <;> omega) | (simp [Conds, rng] <;> omega) | (simp only [Conds, rng, wrap_u8, wrap_u16, wrap_u32, wrap_u64] <;> omega)) ?_) | (refine MC.la true (la_load1 hs rfl (by rfl)) rfl ?_))
    refine MC.loop (σ := Nat) (fun i => [(0, true, ptr p), (14, true, .slice qo D.O.length co), (15, true, int D.O.length), (16, true, int i)])
      (fun i w => i ≤ D.O.length ∧ Sat (blk bs (secV (laid D.S (D.O.take i)) ++ spare) 81 :: blk p [.slice (some ⟨bs, 0, none⟩) D.S.length cs, .slice qo D.O.length co, int D.reads, int D.fuse] 43 :: sl (.slice qo D.O.length co) 83 257 D.O.length (opV D.O) :: F) w) (fun i => D.O.length - i) 0 (by repeat (first | exact trivial | refine ⟨rfl, ?_⟩)) ⟨by omega, hs⟩ ?_
    rintro i w ⟨hi, hs⟩
    repeat (first | (refine MC.run1 tab 1000 rfl rfl (by first | exact True.intro | (simp only [Conds, rng, Int.toNat_natCast, List.length_append, bytesV_length] <;> omega) | (simp [Conds, rng] <;> omega) | (simp only [Conds, rng, wrap_u8, wrap_u16, wrap_u32, wrap_u64] <;> omega)) ?_) | (refine MC.la true (la_load1 hs rfl (by rfl)) rfl ?_))
    refine MC.cond rfl (fun hlt => ?_) (fun hge => ?_)
    · have hlt : i < D.O.length := by omega
      obtain ⟨hx1, hx2⟩ := hD.op _ (List.getElem_mem hlt)
      obtain ⟨q', c', e1, h1, h2, h3⟩ := id hr0
      injection e1 with e1
      subst e1
      obtain ⟨bo, oo, rfl, hr⟩ := h3 (by omega)
      repeat (first | (refine MC.run1 tab 1000 rfl rfl (by first | exact True.intro | (simp only [Conds, rng, Int.toNat_natCast, List.length_append, bytesV_length] <;> omega) | (simp [Conds, rng] <;> omega) | (simp only [Conds, rng, wrap_u8, wrap_u16, wrap_u32, wrap_u64] <;> omega)) ?_) | (refine MC.la true (la_load1 hs rfl (by rfl)) rfl ?_))
      refine MC.la true (la_loadV_rd hr hs (j := i * 257) rfl (vs := opB D.O[i]) (rows_get (fun x hx => opB_length (hD.op x hx).1) hlt) (opB_length hx1) rfl) rfl ?_
      refine MC.does true (does_alloc hs) rfl ?_; rintro _ w ⟨_, rfl, hs⟩
      refine MC.does true (does_store (vs := opB D.O[i]) hs rfl rfl rfl (opB_length hx1) (opB_one _) (by simp)) rfl ?_
      intro _ w hs
      rw [splice_all (by simp [opB_length hx1])] at hs
      have hS := laid_length (D.O.take i) D.S
      have hsec := laid_sec (D.O.take i) D.S hD.sec fun x hx => (hD.op x (List.mem_of_mem_take hx)).1
      have hx3 : (((D.O[i]).1 : Nat) : Int).toNat = (D.O[i]).1 := Int.toNat_natCast _
      repeat (first | (refine MC.run1 tab 1000 rfl rfl (by first | exact True.intro | (simp only [Conds, rng, Int.toNat_natCast, List.length_append, bytesV_length] <;> omega) | (simp [Conds, rng] <;> omega) | (simp only [Conds, rng, wrap_u8, wrap_u16, wrap_u32, wrap_u64] <;> omega)) ?_) | (refine MC.la true (la_load1 hs rfl (by rfl)) rfl ?_))
      refine MC.draw hs [0,1,2,3,4,5,6,7,8,9] (by rfl) ?_; intro w hs
      repeat (first | (refine MC.run1 tab 1000 rfl rfl (by first | exact True.intro | (simp only [Conds, rng, Int.toNat_natCast, List.length_append, bytesV_length] <;> omega) | (simp [Conds, rng] <;> omega) | (simp only [Conds, rng, wrap_u8, wrap_u16, wrap_u32, wrap_u64] <;> omega)) ?_) | (refine MC.laD true (la_load1 hs rfl (by rfl)) rfl ?_))
      refine MC.laD true (la_loadV hs rfl (vs := bytesV (D.O[i]).2) (by exact List.take_of_length_le (by simp [opB_length hx1])) (by simp [hx1]) rfl) rfl ?_
      repeat (first | (refine MC.run1 tab 1000 rfl rfl (by first | exact True.intro | (simp only [Conds, rng, Int.toNat_natCast, List.length_append, bytesV_length] <;> omega) | (simp [Conds, rng] <;> omega) | (simp only [Conds, rng, wrap_u8, wrap_u16, wrap_u32, wrap_u64] <;> omega)) ?_) | (refine MC.laD true (la_load1 hs rfl (by rfl)) rfl ?_))
      refine MC.doesD true (does_store (vs := bytesV (D.O[i]).2) hs rfl rfl rfl (by simp [hx1]) (bytesV_one _) ?_) rfl rfl rfl rfl ?_
      · have := secV_length hsec
        rw [List.length_append, this, hS, hx3]; omega
      intro _ w hs
      rw [Nat.zero_add, hx3, sec_splice hsec (by omega) hx1, ← laid_take hlt] at hs
      repeat (first | (refine MC.run1 tab 1000 rfl rfl (by first | exact True.intro | (simp only [Conds, rng, Int.toNat_natCast, List.length_append, bytesV_length] <;> omega) | (simp [Conds, rng] <;> omega) | (simp only [Conds, rng, wrap_u8, wrap_u16, wrap_u32, wrap_u64] <;> omega)) ?_) | (refine MC.la true (la_load1 hs rfl (by rfl)) rfl ?_))
      exact MC.again (i + 1) (by repeat (first | exact trivial | refine ⟨rfl, ?_⟩)) ⟨by omega, hs.tail⟩ (by omega)
    · have hi' : i = D.O.length := by omega
      subst hi'
      rw [List.take_length] at hs
      repeat (first | (refine MC.run1 tab 1000 rfl rfl (by first | exact True.intro | (simp only [Conds, rng, Int.toNat_natCast, List.length_append, bytesV_length] <;> omega) | (simp [Conds, rng] <;> omega) | (simp only [Conds, rng, wrap_u8, wrap_u16, wrap_u32, wrap_u64] <;> omega)) ?_) | (refine MC.la true (la_load1 hs rfl (by rfl)) rfl ?_))
      refine MC.does true (does_store1 hs rfl rfl rfl (by first | decide | (simp; done) | (simp; omega))) rfl ?_; intro _ w hs
      repeat (first | (refine MC.run1 tab 1000 rfl rfl (by first | exact True.intro | (simp only [Conds, rng, Int.toNat_natCast, List.length_append, bytesV_length] <;> omega) | (simp [Conds, rng] <;> omega) | (simp only [Conds, rng, wrap_u8, wrap_u16, wrap_u32, wrap_u64] <;> omega)) ?_) | (refine MC.la true (la_load1 hs rfl (by rfl)) rfl ?_))
      have hs2 : Sat (dev p { D with S := laid D.S D.O, O := [] } :: F) w := by
        have h3 := hs.sl_mk (n := D.S.length) (c := cs) (size := 256) hcs (by rw [secV_length (laid_sec _ _ hD.sec fun x hx => (hD.op x hx).1), laid_length]) (by rw [← hsp, secV_length (laid_sec _ _ hD.sec fun x hx => (hD.op x hx).1), laid_length, hsl])
        refine dev_shut (vs := .slice (some ⟨bs, 0, none⟩) D.S.length cs) (vo := .slice none 0 0) ?_
        rw [show (laid D.S D.O).length = D.S.length from laid_length _ _]
        exact (Sat.sl_nil h3 83 257).pickF 4 [2, 1, 0] rfl rfl
      have hD2 : ({ D with S := laid D.S D.O, O := [] } : Dev).ok := { Dev.sync_ok hD with fuse0 := hD.fuse0, fuse1 := hD.fuse1 }
      refine MC.does true (does_call rfl (burn_spec hs2 hD2)) rfl ?_
      intro _ w hs
      repeat (first | (refine MC.run1 tab 1000 rfl rfl (by first | exact True.intro | (simp only [Conds, rng, Int.toNat_natCast, List.length_append, bytesV_length] <;> omega) | (simp [Conds, rng] <;> omega) | (simp only [Conds, rng, wrap_u8, wrap_u16, wrap_u32, wrap_u64] <;> omega)) ?_) | (refine MC.la true (la_load1 hs rfl (by rfl)) rfl ?_))
      refine MC.ret rfl ?_
      exact ⟨by rw [h]; rfl, hs⟩
end Go.Proofs.YtoigogonccjagaaDoor
