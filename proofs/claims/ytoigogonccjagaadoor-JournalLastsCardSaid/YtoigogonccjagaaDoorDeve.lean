/- The device: what is read of it. -/
import Derived.Test.YtoigogonccjagaaDoorDevd
import Derived.Test.YtoigogonccjagaaDoorRf
set_option linter.unusedVariables false
set_option linter.unusedSimpArgs false
namespace Go.Proofs.YtoigogonccjagaaDoor
open Go Go.Sl
attribute [local irreducible] LooksAt

/-- The open write that is i-th from the end. -/
def Dev.back (D : Dev) (i : Nat) : Nat × List UInt8 := D.O.getD (D.O.length - 1 - i) (0, [])
theorem Dev.back_eq {D : Dev} {i : Nat} (h : i < D.O.length) : D.O[D.O.length - 1 - i]'(by omega) = D.back i := by
  simp [Dev.back, List.getD_eq_getElem?_getD, List.getElem?_eq_getElem (show D.O.length - 1 - i < D.O.length by omega)]
theorem int_eq {a b : Int} (h : a = b) : some (Value.int .i64 a) = some (Value.int .i64 b) := by rw [h]
theorem newest1_spec {p q : Nat} {D : Dev} (hD : D.ok) (hO : D.O.length ≤ 100000) {J : Nat → World → Prop} {Jx : World → Prop} (hJ : ∀ i w, i ≤ D.O.length → J i w → ∃ F, Sat (dev p D :: blk q [ptr p] 27 :: F) w) :
    Iter Tryd.prog 68 [ptr q] J Jx (fun i => .agg (opB (D.back i)).toArray) D.O.length := by
  intro L w hround h0
  refine Ret.enter [(true, .func (.yield L) #[] #[]), (true, ptr q)] _ Tryd.func68 rfl Tryd.ntmps68 rfl ?_
  obtain ⟨F, hs⟩ := hJ 0 w (by omega) h0
  obtain ⟨vs, vo, hs⟩ := dev_open hs
  obtain ⟨_, qo, co, rfl, hco⟩ := (hs.pull 2 rfl).sl_len
  repeat (first | (refine MC.run1 tab 1000 rfl rfl (by first | exact True.intro | (simp only [Conds, rng, Int.toNat_natCast, List.length_append, bytesV_length] <;> omega) | (simp [Conds, rng] <;> omega) | (simp only [Conds, rng, wrap_u8, wrap_u16, wrap_u32, wrap_u64] <;> omega)) ?_) | (refine MC.la true (la_load1 hs rfl (by rfl)) rfl ?_))
  refine MC.loop (σ := Nat) (fun i => [(0, true, .func (.yield L) #[] #[]), (1, true, ptr q), (3, true, int ((D.O.length : Int) - 1 - (i : Nat)))])
    (fun i w => i ≤ D.O.length ∧ J i w) (fun i => D.O.length - i) 0 ?_ ⟨by omega, h0⟩ ?_
  · exact ⟨rfl, rfl, int_eq (by omega), trivial⟩
  rintro i w ⟨hi, hj⟩
  obtain ⟨F, hs⟩ := hJ i w hi hj
  obtain ⟨vs, vo, hs⟩ := dev_open hs
  obtain ⟨_, qo, co, rfl, hco⟩ := (hs.pull 2 rfl).sl_len
  repeat (first | (refine MC.run1 tab 1000 rfl rfl (by first | exact True.intro | (simp only [Conds, rng, Int.toNat_natCast, List.length_append, bytesV_length] <;> omega) | (simp [Conds, rng] <;> omega) | (simp only [Conds, rng, wrap_u8, wrap_u16, wrap_u32, wrap_u64] <;> omega)) ?_) | (refine MC.la true (la_load1 hs rfl (by rfl)) rfl ?_))
  refine MC.cond rfl (fun hlt => ?_) (fun hge => ?_)
  · have hlt : i < D.O.length := by omega
    have hr0 : RdS (sl (.slice qo D.O.length co) 83 257 D.O.length (opV D.O) :: blk q [ptr p] 27 :: F) 257 (.slice qo D.O.length co) D.O.length (opV D.O) := RdS.of_sl (hs.tail.tail)
    obtain ⟨q', c', e1, h1, h2, h3⟩ := id hr0
    injection e1 with e1
    subst e1
    obtain ⟨bo, oo, rfl, hr⟩ := h3 (by omega)
    have hx1 : (D.back i).2.length = 256 := by rw [← Dev.back_eq hlt]; exact (hD.op _ (List.getElem_mem _)).1
    have hi2 : ((D.O.length : Int) - 1 - (i : Nat)).toNat = D.O.length - 1 - i := by omega
    repeat (first | (refine MC.run1 tab 1000 rfl rfl (by first | exact True.intro | (simp only [Conds, rng, Int.toNat_natCast, List.length_append, bytesV_length] <;> omega) | (simp [Conds, rng] <;> omega) | (simp only [Conds, rng, wrap_u8, wrap_u16, wrap_u32, wrap_u64] <;> omega)) ?_) | (refine MC.la true (la_load1 hs rfl (by rfl)) rfl ?_))
    refine MC.la true (la_loadV_rd hr hs (j := ((D.O.length : Int) - 1 - (i : Nat)).toNat * 257) rfl (vs := opB (D.back i)) (by rw [hi2, ← Dev.back_eq hlt]; exact rows_get (fun x hx => opB_length (hD.op x hx).1) _) (opB_length hx1) rfl) rfl ?_
    refine MC.does true (does_yield rfl rfl (hround i w hlt hj)) rfl ?_
    rintro _ w (⟨rfl, hj⟩ | ⟨rfl, hj⟩)
    · repeat (first | (refine MC.run1 tab 1000 rfl rfl (by first | exact True.intro | (simp only [Conds, rng, Int.toNat_natCast, List.length_append, bytesV_length] <;> omega) | (simp [Conds, rng] <;> omega) | (simp only [Conds, rng, wrap_u8, wrap_u16, wrap_u32, wrap_u64] <;> omega)) ?_) | (refine MC.la true (la_load1 hs rfl (by rfl)) rfl ?_))
      exact MC.again (i + 1) ⟨rfl, rfl, int_eq (by omega), trivial⟩ ⟨by omega, hj⟩ (by omega)
    · repeat (first | (refine MC.run1 tab 1000 rfl rfl (by first | exact True.intro | (simp only [Conds, rng, Int.toNat_natCast, List.length_append, bytesV_length] <;> omega) | (simp [Conds, rng] <;> omega) | (simp only [Conds, rng, wrap_u8, wrap_u16, wrap_u32, wrap_u64] <;> omega)) ?_) | (refine MC.la true (la_load1 hs rfl (by rfl)) rfl ?_))
      refine MC.ret rfl ?_
      exact .inr hj
  · have hi' : i = D.O.length := by omega
    subst hi'
    repeat (first | (refine MC.run1 tab 1000 rfl rfl (by first | exact True.intro | (simp only [Conds, rng, Int.toNat_natCast, List.length_append, bytesV_length] <;> omega) | (simp [Conds, rng] <;> omega) | (simp only [Conds, rng, wrap_u8, wrap_u16, wrap_u32, wrap_u64] <;> omega)) ?_) | (refine MC.la true (la_load1 hs rfl (by rfl)) rfl ?_))
    refine MC.end_ rfl ?_
    exact .inl hj
theorem newest_spec {F : List Assn} {p : Nat} {w : World} (hs : Sat F w) :
    Ret Tryd.prog 56 [ptr p] w fun v w' => ∃ q, v = .func (.func 68) #[] #[ptr q] ∧ Sat (blk q [ptr p] 27 :: F) w' := by
  refine Ret.enter [(true, ptr p)] _ Tryd.func56 rfl Tryd.ntmps56 rfl ?_
  repeat (first | (refine MC.run1 tab 1000 rfl rfl (by first | exact True.intro | (simp only [Conds, rng, Int.toNat_natCast, List.length_append, bytesV_length] <;> omega) | (simp [Conds, rng] <;> omega) | (simp only [Conds, rng, wrap_u8, wrap_u16, wrap_u32, wrap_u64] <;> omega)) ?_) | (refine MC.la true (la_load1 hs rfl (by rfl)) rfl ?_))
  refine MC.does true (does_box hs rfl rfl) rfl ?_; rintro _ w ⟨_, rfl, hs⟩
  repeat (first | (refine MC.run1 tab 1000 rfl rfl (by first | exact True.intro | (simp only [Conds, rng, Int.toNat_natCast, List.length_append, bytesV_length] <;> omega) | (simp [Conds, rng] <;> omega) | (simp only [Conds, rng, wrap_u8, wrap_u16, wrap_u32, wrap_u64] <;> omega)) ?_) | (refine MC.la true (la_load1 hs rfl (by rfl)) rfl ?_))
  refine MC.pure (f := true) (po_makeFunc (vf := []) (vc := [ptr _]) rfl rfl) rfl ?_
  repeat (first | (refine MC.run1 tab 1000 rfl rfl (by first | exact True.intro | (simp only [Conds, rng, Int.toNat_natCast, List.length_append, bytesV_length] <;> omega) | (simp [Conds, rng] <;> omega) | (simp only [Conds, rng, wrap_u8, wrap_u16, wrap_u32, wrap_u64] <;> omega)) ?_) | (refine MC.la true (la_load1 hs rfl (by rfl)) rfl ?_))
  refine MC.ret rfl ?_
  exact ⟨_, rfl, hs⟩
theorem dropPre {pre l : List Assn} {w : World} (h : Sat (pre ++ l) w) : Sat l w := by
  induction pre with
  | nil => exact h
  | cons a pre ih => exact ih h.tail
/-- What a sector reads as. -/
def Dev.get (D : Dev) (k : Nat) : List UInt8 := (laid D.S D.O).getD k []
def Dev.red (D : Dev) : Dev := { D with reads := IntKind.i64.wrap (D.reads + 1) }
theorem Dev.red_ok {D : Dev} (hD : D.ok) : D.red.ok := { hD with }
theorem laid_append (S : List (List UInt8)) (a b : List (Nat × List UInt8)) : laid S (a ++ b) = laid (laid S a) b := List.foldl_append
theorem laid_other {k : Nat} (O : List (Nat × List UInt8)) : ∀ (S : List (List UInt8)), (∀ x ∈ O, x.1 ≠ k) → (laid S O)[k]? = S[k]? := by
  induction O with
  | nil => intro S _; rfl
  | cons x O ih =>
    intro S h
    refine (ih _ fun y hy => h y (List.mem_cons_of_mem _ hy)).trans ?_
    rw [List.getElem?_set_ne (h x List.mem_cons_self)]
theorem Dev.back_later {D : Dev} {i k : Nat} (h : ∀ j, j < i → (D.back j).1 ≠ k) (hi : i ≤ D.O.length) : ∀ x ∈ D.O.drop (D.O.length - i), x.1 ≠ k := by
  intro x hx
  obtain ⟨m, hm, rfl⟩ := List.getElem_of_mem hx
  rw [List.length_drop] at hm
  rw [List.getElem_drop]
  have := h (i - 1 - m) (by omega)
  rw [← Dev.back_eq (by omega)] at this
  have e : D.O.length - 1 - (i - 1 - m) = D.O.length - i + m := by omega
  simpa [e] using this
theorem Dev.get_none {D : Dev} {k : Nat} (h : ∀ j, j < D.O.length → (D.back j).1 ≠ k) (hk : k < D.S.length) : D.get k = D.S[k] := by
  have := laid_other D.O D.S (k := k) (by simpa using Dev.back_later h (Nat.le_refl _))
  simp [Dev.get, List.getD_eq_getElem?_getD, this, hk]
theorem Dev.get_back {D : Dev} {i k : Nat} (h : ∀ j, j < i → (D.back j).1 ≠ k) (hi : i < D.O.length) (e : (D.back i).1 = k) (hk : k < D.S.length) : D.get k = (D.back i).2 := by
  have h1 := Dev.back_later h (by omega)
  have e1 : D.O = D.O.take (D.O.length - 1 - i) ++ (D.back i :: D.O.drop (D.O.length - i)) := by
    conv => lhs; rw [← List.take_append_drop (D.O.length - 1 - i) D.O]
    rw [List.drop_eq_getElem_cons (by omega), Dev.back_eq hi, show D.O.length - 1 - i + 1 = D.O.length - i by omega]
  have e2 : laid D.S D.O = laid ((laid D.S (D.O.take (D.O.length - 1 - i))).set k (D.back i).2) (D.O.drop (D.O.length - i)) := by
    conv => lhs; rw [e1]
    rw [laid_append, ← e]; rfl
  rw [Dev.get, e2, List.getD_eq_getElem?_getD, laid_other _ _ h1, List.getElem?_set_self (by rw [laid_length]; exact hk)]
  rfl
theorem get_length {D : Dev} (hD : D.ok) {k : Nat} (hk : k < D.S.length) : (D.get k).length = 256 := by
  have h := laid_sec D.O D.S hD.sec fun x hx => (hD.op x hx).1
  have hl : k < (laid D.S D.O).length := by rw [laid_length]; exact hk
  rw [Dev.get, List.getD_eq_getElem?_getD, List.getElem?_eq_getElem hl]
  exact h _ (List.getElem_mem hl)
theorem read_spec {F : List Assn} {p : Nat} {D : Dev} {w : World} {k : Int} (hs : Sat (dev p D :: F) w) (hD : D.ok) (hO : D.O.length ≤ 100000) :
    Ret Tryd.prog 36 [ptr p, int k] w fun v w' => if D.wrong k 256 = 0 then ∃ vb, v = .tuple #[vb, int 0] ∧ Sat (sl vb 5 1 256 (bytesV (D.get k.toNat)) :: dev p D.red :: F) w' else v = .tuple #[.slice none 0 0, int (D.wrong k 256)] ∧ Sat (dev p D :: F) w' := by
  refine Ret.enterM [(true, ptr p), (true, int k)] _ Tryd.func36 rfl Tryd.ntmps36 rfl ?_
  repeat (first | (refine MC.run1 tab 1000 rfl rfl (by first | exact True.intro | (simp only [Conds, rng, Int.toNat_natCast, List.length_append, bytesV_length] <;> omega) | (simp [Conds, rng] <;> omega) | (simp only [Conds, rng, wrap_u8, wrap_u16, wrap_u32, wrap_u64] <;> omega)) ?_) | (refine MC.la true (la_load1 hs rfl (by rfl)) rfl ?_))
  refine MC.does true (does_box hs rfl rfl) rfl ?_; rintro _ w ⟨b3, rfl, hs⟩
  have hready := ready_spec (hs.tail) hD k 256
  repeat (first | (refine MC.run1 tab 1000 rfl rfl (by first | exact True.intro | (simp only [Conds, rng, Int.toNat_natCast, List.length_append, bytesV_length] <;> omega) | (simp [Conds, rng] <;> omega) | (simp only [Conds, rng, wrap_u8, wrap_u16, wrap_u32, wrap_u64] <;> omega)) ?_) | (refine MC.la true (la_load1 hs rfl (by rfl)) rfl ?_))
  refine MC.does true (does_call rfl (hready)) rfl ?_
  rintro _ w' ⟨rfl, rfl⟩
  repeat (first | (refine MC.run1 tab 1000 rfl rfl (by first | exact True.intro | (simp only [Conds, rng, Int.toNat_natCast, List.length_append, bytesV_length] <;> omega) | (simp [Conds, rng] <;> omega) | (simp only [Conds, rng, wrap_u8, wrap_u16, wrap_u32, wrap_u64] <;> omega)) ?_) | (refine MC.la true (la_load1 hs rfl (by rfl)) rfl ?_))
  refine MC.cond rfl (fun h => ?_) (fun h => ?_)
  · repeat (first | (refine MC.run1 tab 1000 rfl rfl (by first | exact True.intro | (simp only [Conds, rng, Int.toNat_natCast, List.length_append, bytesV_length] <;> omega) | (simp [Conds, rng] <;> omega) | (simp only [Conds, rng, wrap_u8, wrap_u16, wrap_u32, wrap_u64] <;> omega)) ?_) | (refine MC.la true (la_load1 hs rfl (by rfl)) rfl ?_))
    refine MC.retM0 rfl ?_
    rw [if_neg h]
    exact ⟨rfl, hs.tail⟩
  have h := Decidable.not_not.1 h
  simp only [h, if_true]
  obtain ⟨hk0, hk1, _, hf⟩ := Dev.wrong_zero.1 h
  obtain ⟨vs, vo, hs⟩ := dev_open hs.swap
  obtain ⟨hsl, qs, cs, rfl, hcs⟩ := (hs.pull 1 rfl).sl_len
  refine MC.run1 tab 1000 rfl rfl (by first | exact True.intro | (simp only [Conds, rng, Int.toNat_natCast, List.length_append, bytesV_length] <;> omega) | (simp [Conds, rng] <;> omega) | (simp only [Conds, rng, wrap_u8, wrap_u16, wrap_u32, wrap_u64] <;> omega)) ?_
  refine MC.la false (la_load1 hs rfl (by rfl)) rfl ?_
  refine MC.pure (f := true) (po_bin rfl rfl (br_add rfl)) rfl ?_
  repeat (first | (refine MC.run1 tab 1000 rfl rfl (by first | exact True.intro | (simp only [Conds, rng, Int.toNat_natCast, List.length_append, bytesV_length] <;> omega) | (simp [Conds, rng] <;> omega) | (simp only [Conds, rng, wrap_u8, wrap_u16, wrap_u32, wrap_u64] <;> omega)) ?_) | (refine MC.la true (la_load1 hs rfl (by rfl)) rfl ?_))
  refine MC.does true (does_store1 hs rfl rfl rfl (by first | decide | (simp; done) | (simp; omega))) rfl ?_; intro _ w hs
  repeat (first | (refine MC.run1 tab 1000 rfl rfl (by first | exact True.intro | (simp only [Conds, rng, Int.toNat_natCast, List.length_append, bytesV_length] <;> omega) | (simp [Conds, rng] <;> omega) | (simp only [Conds, rng, wrap_u8, wrap_u16, wrap_u32, wrap_u64] <;> omega)) ?_) | (refine MC.la true (la_load1 hs rfl (by rfl)) rfl ?_))
  refine MC.draw hs [0,1,2,3,4,5,6,7,8] (by rfl) ?_; intro w hs
  have hr0 := RdS.of_sl hs.tail
  obtain ⟨q', c', e1, h1, h2, h3⟩ := id hr0
  injection e1 with e1
  subst e1
  obtain ⟨bo, oo, rfl, hr⟩ := h3 (by omega)
  repeat (first | (refine MC.run1 tab 1000 rfl rfl (by first | exact True.intro | (simp only [Conds, rng, Int.toNat_natCast, List.length_append, bytesV_length] <;> omega) | (simp [Conds, rng] <;> omega) | (simp only [Conds, rng, wrap_u8, wrap_u16, wrap_u32, wrap_u64] <;> omega)) ?_) | (refine MC.laD true (la_load1 hs rfl (by rfl)) rfl ?_))
  have hk : k.toNat < D.S.length := by omega
  have hsk : (D.S[k.toNat]).length = 256 := hD.sec _ (List.getElem_mem hk)
  refine MC.laD true (la_loadV_rd hr hs (j := k.toNat * 256) rfl (vs := bytesV D.S[k.toNat]) (rows_get (fun x hx => by simp [hD.sec x hx]) hk) (by simp [hsk]) rfl) rfl ?_
  refine MC.doesK true (does_alloc hs) rfl rfl rfl ?_
  rintro _ w ⟨b7, rfl, hs⟩
  refine ⟨⟨Suf.sat hs, At.sat hs, At.sat hs, trivial⟩, ?_⟩
  refine MC.doesD true (does_store (vs := bytesV D.S[k.toNat]) hs rfl rfl rfl (by simp [hsk]) (bytesV_one _) (by simp)) rfl rfl rfl rfl ?_
  intro _ w hs
  rw [splice_all (by simp [hsk])] at hs
  have hs := hs.pickF 5 [1, 2, 3, 0, 4] rfl rfl
  have hs : Sat (dev p D.red :: blk b7 (bytesV D.S[k.toNat]) 81 :: blk b3 [int k] 3 :: F) w := dev_shut (vs := .slice (some ⟨bo, oo, none⟩) D.S.length cs) (vo := vo) hs
  repeat (first | (refine MC.run1 tab 1000 rfl rfl (by first | exact True.intro | (simp only [Conds, rng, Int.toNat_natCast, List.length_append, bytesV_length] <;> omega) | (simp [Conds, rng] <;> omega) | (simp only [Conds, rng, wrap_u8, wrap_u16, wrap_u32, wrap_u64] <;> omega)) ?_) | (refine MC.la true (la_load1 hs rfl (by rfl)) rfl ?_))
  refine MC.does true (does_call rfl (newest_spec hs)) rfl ?_
  rintro _ w ⟨q, rfl, hs⟩
  repeat (first | (refine MC.run1 tab 1000 rfl rfl (by first | exact True.intro | (simp only [Conds, rng, Int.toNat_natCast, List.length_append, bytesV_length] <;> omega) | (simp [Conds, rng] <;> omega) | (simp only [Conds, rng, wrap_u8, wrap_u16, wrap_u32, wrap_u64] <;> omega)) ?_) | (refine MC.la true (la_load1 hs rfl (by rfl)) rfl ?_))
  have hg : (D.get k.toNat).length = 256 := get_length hD hk
  refine MC.rangeFunc rfl (lb := [ptr q]) (fun i => fact (∀ j, j < i → (D.back j).1 ≠ k.toNat) :: dev p D.red :: blk q [ptr p] 27 :: blk b7 (bytesV D.S[k.toNat]) 81 :: blk b3 [int k] 3 :: F)
    D.O.length (fun i => .agg (opB (D.back i)).toArray) [.exit 0] (fun _ => dev p D.red :: blk q [ptr p] 27 :: blk b7 (bytesV (D.get k.toNat)) 81 :: blk b3 [int k] 3 :: F)
    rfl rfl (Sat.fact_iff.2 ⟨fun j hj => absurd hj (by omega), hs.swap⟩) ?_ ?_ ?_ ?_
  · intro pre Jx
    exact newest1_spec (D := D.red) (Dev.red_ok hD) hO fun i w hi h => ⟨_, (Sat.fact_iff.1 (dropPre h)).2⟩
  · intro L E i rec w hi hrec hs
    have hx1 : (D.back i).2.length = 256 := by rw [← Dev.back_eq hi]; exact (hD.op _ (List.getElem_mem _)).1
    repeat (first | (refine MC.run1 tab 1000 rfl rfl (by first | exact True.intro | (simp only [Conds, rng, Int.toNat_natCast, List.length_append, bytesV_length] <;> omega) | (simp [Conds, rng] <;> omega) | (simp only [Conds, rng, wrap_u8, wrap_u16, wrap_u32, wrap_u64] <;> omega)) ?_) | (refine MC.la true (la_load1 hs rfl (by rfl)) rfl ?_))
    refine MC.does true (does_alloc hs) rfl ?_; rintro _ w ⟨_, rfl, hs⟩
    refine MC.does true (does_store (vs := opB (D.back i)) hs rfl rfl rfl (opB_length hx1) (opB_one _) (by simp)) rfl ?_
    intro _ w hs
    rw [splice_all (by simp [opB_length hx1])] at hs
    repeat (first | (refine MC.run1 tab 1000 rfl rfl (by first | exact True.intro | (simp only [Conds, rng, Int.toNat_natCast, List.length_append, bytesV_length] <;> omega) | (simp [Conds, rng] <;> omega) | (simp only [Conds, rng, wrap_u8, wrap_u16, wrap_u32, wrap_u64] <;> omega)) ?_) | (refine MC.la true (la_load1 hs rfl (by rfl)) rfl ?_))
    refine MC.begin hrec hs.swap fun w hs => ?_
    repeat (first | (refine MC.run1 tab 1000 rfl rfl (by first | exact True.intro | (simp only [Conds, rng, Int.toNat_natCast, List.length_append, bytesV_length] <;> omega) | (simp [Conds, rng] <;> omega) | (simp only [Conds, rng, wrap_u8, wrap_u16, wrap_u32, wrap_u64] <;> omega)) ?_) | (refine MC.la true (la_load1 hs rfl (by rfl)) rfl ?_))
    refine MC.cond rfl (fun he => ?_) (fun he => ?_)
    · have he' : (D.back i).1 = k.toNat := by omega
      repeat (first | (refine MC.run1 tab 1000 rfl rfl (by first | exact True.intro | (simp only [Conds, rng, Int.toNat_natCast, List.length_append, bytesV_length] <;> omega) | (simp [Conds, rng] <;> omega) | (simp only [Conds, rng, wrap_u8, wrap_u16, wrap_u32, wrap_u64] <;> omega)) ?_) | (refine MC.la true (la_load1 hs rfl (by rfl)) rfl ?_))
      refine MC.la true (la_loadV hs rfl (vs := bytesV (D.back i).2) (by exact List.take_of_length_le (by simp [opB_length hx1])) (by simp [hx1]) rfl) rfl ?_
      refine MC.does true (does_store (vs := bytesV (D.back i).2) hs rfl rfl rfl (by simp [hx1]) (bytesV_one _) (by simp [hsk])) rfl ?_
      intro _ w hs
      rw [splice_all (by simp [hx1, hsk])] at hs
      refine MC.run1 tab 1000 rfl rfl (by first | exact True.intro | (simp only [Conds, rng, Int.toNat_natCast, List.length_append, bytesV_length] <;> omega) | (simp [Conds, rng] <;> omega) | (simp only [Conds, rng, wrap_u8, wrap_u16, wrap_u32, wrap_u64] <;> omega)) ?_
      have hs := hs.pickF 4 [0, 2, 3] rfl rfl
      obtain ⟨hf, hs⟩ := Sat.fact_iff.1 (hs.pull 2 rfl)
      refine MC.stop rfl (List.mem_singleton.2 rfl) ?_
      rw [Dev.get_back hf hi he' hk]
      exact hs
    · repeat (first | (refine MC.run1 tab 1000 rfl rfl (by first | exact True.intro | (simp only [Conds, rng, Int.toNat_natCast, List.length_append, bytesV_length] <;> omega) | (simp [Conds, rng] <;> omega) | (simp only [Conds, rng, wrap_u8, wrap_u16, wrap_u32, wrap_u64] <;> omega)) ?_) | (refine MC.la true (la_load1 hs rfl (by rfl)) rfl ?_))
      have hs := hs.pickF 4 [0, 2, 3] rfl rfl
      obtain ⟨hf, hs⟩ := Sat.fact_iff.1 (hs.pull 2 rfl)
      have hf2 : ∀ j, j < i + 1 → (D.back j).1 ≠ k.toNat := fun j hj => by
        rcases Nat.lt_or_ge j i with h' | h'
        · exact hf j h'
        · obtain rfl : j = i := by omega
          omega
      have hs := (Sat.fact_iff.2 ⟨hf2, hs⟩).pickF 3 [1, 2, 0] rfl rfl
      exact MC.more hrec hs
  · intro E w hs
    obtain ⟨hf, hs⟩ := Sat.fact_iff.1 (hs.pull 1 rfl)
    rw [← Dev.get_none hf hk] at hs
    have hs := hs.pickF 5 [0, 3, 1, 4] rfl rfl
    (try dsimp only [List.eraseIdx, List.cons_append, List.nil_append, List.drop_succ_cons, List.drop_zero, List.append_eq] at hs)
    repeat (first | (refine MC.run1 tab 1000 rfl rfl (by first | exact True.intro | (simp only [Conds, rng, Int.toNat_natCast, List.length_append, bytesV_length] <;> omega) | (simp [Conds, rng] <;> omega) | (simp only [Conds, rng, wrap_u8, wrap_u16, wrap_u32, wrap_u64] <;> omega)) ?_) | (refine MC.la true (la_load1 hs rfl (by rfl)) rfl ?_))
    refine MC.does true (does_buildSlice0 hs) rfl ?_
    rintro _ w ⟨b9, rfl, hs⟩
    have hs := Sat.sl_mk (xs := []) (spare := []) (n := 0) (c := 0) (size := 1) hs (Nat.le_refl _) rfl rfl
    refine MC.pure (f := true) (po_sliceArr (n := 256) rfl) rfl ?_
    refine MC.does true (does_append hs rfl rfl (src_at (by simp [hg]) (bytesV_one _)) (by omega) (by omega)) rfl ?_
    intro va w hs
    repeat (first | (refine MC.run1 tab 1000 rfl rfl (by first | exact True.intro | (simp only [Conds, rng, Int.toNat_natCast, List.length_append, bytesV_length] <;> omega) | (simp [Conds, rng] <;> omega) | (simp only [Conds, rng, wrap_u8, wrap_u16, wrap_u32, wrap_u64] <;> omega)) ?_) | (refine MC.la true (la_load1 hs rfl (by rfl)) rfl ?_))
    have hs := hs.pickF 5 [1, 0, 3] rfl rfl
    exact MC.retM rfl hs fun w' hs => ⟨va, rfl, hs⟩
  · intro c E w hc hs
    rw [List.mem_singleton.1 hc]
    refine MC.run1 tab 1000 rfl rfl (by first | exact True.intro | (simp only [Conds, rng, Int.toNat_natCast, List.length_append, bytesV_length] <;> omega) | (simp [Conds, rng] <;> omega) | (simp only [Conds, rng, wrap_u8, wrap_u16, wrap_u32, wrap_u64] <;> omega)) ?_
    have hs := hs.pickF 5 [0, 3, 1, 4] rfl rfl
    (try dsimp only [List.eraseIdx, List.cons_append, List.nil_append, List.drop_succ_cons, List.drop_zero, List.append_eq] at hs)
    repeat (first | (refine MC.run1 tab 1000 rfl rfl (by first | exact True.intro | (simp only [Conds, rng, Int.toNat_natCast, List.length_append, bytesV_length] <;> omega) | (simp [Conds, rng] <;> omega) | (simp only [Conds, rng, wrap_u8, wrap_u16, wrap_u32, wrap_u64] <;> omega)) ?_) | (refine MC.la true (la_load1 hs rfl (by rfl)) rfl ?_))
    refine MC.does true (does_buildSlice0 hs) rfl ?_
    rintro _ w ⟨b9, rfl, hs⟩
    have hs := Sat.sl_mk (xs := []) (spare := []) (n := 0) (c := 0) (size := 1) hs (Nat.le_refl _) rfl rfl
    refine MC.pure (f := true) (po_sliceArr (n := 256) rfl) rfl ?_
    refine MC.does true (does_append hs rfl rfl (src_at (by simp [hg]) (bytesV_one _)) (by omega) (by omega)) rfl ?_
    intro va w hs
    repeat (first | (refine MC.run1 tab 1000 rfl rfl (by first | exact True.intro | (simp only [Conds, rng, Int.toNat_natCast, List.length_append, bytesV_length] <;> omega) | (simp [Conds, rng] <;> omega) | (simp only [Conds, rng, wrap_u8, wrap_u16, wrap_u32, wrap_u64] <;> omega)) ?_) | (refine MC.la true (la_load1 hs rfl (by rfl)) rfl ?_))
    have hs := hs.pickF 5 [1, 0, 3] rfl rfl
    exact MC.retM rfl hs fun w' hs => ⟨va, rfl, hs⟩
end Go.Proofs.YtoigogonccjagaaDoor
