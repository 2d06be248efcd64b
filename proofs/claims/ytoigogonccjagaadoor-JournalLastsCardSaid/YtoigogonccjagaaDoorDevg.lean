/- The device: a loss of power. -/
import Derived.Test.YtoigogonccjagaaDoorDevf
set_option linter.unusedVariables false
set_option linter.unusedSimpArgs false
namespace Go.Proofs.YtoigogonccjagaaDoor
open Go Go.Sl
attribute [local irreducible] LooksAt

/-- How much of the i-th open write is kept. -/
def lostN (kept : List Bool) (torn at' : Int) (i : Nat) : Nat := if (i : Int) = torn then (max 0 (min at' 256)).toNat else if kept.getD i false then 256 else 0
def lost (S : List (List UInt8)) (O : List (Nat × List UInt8)) (kept : List Bool) (torn at' : Int) : Nat → List (List UInt8)
  | 0 => S
  | i + 1 =>
    let T := lost S O kept torn at' i
    let x := O.getD i (0, [])
    T.set x.1 (x.2.take (lostN kept torn at' i) ++ (T.getD x.1 []).drop (lostN kept torn at' i))
def Dev.lose (D : Dev) (kept : List Bool) (torn at' : Int) : Dev := ⟨lost D.S D.O kept torn at' D.O.length, [], 0, 0⟩
theorem lostN_le (kept : List Bool) (torn at' : Int) (i : Nat) : lostN kept torn at' i ≤ 256 := by
  simp only [lostN]; split
  · omega
  · split <;> omega
theorem lost_length {S : List (List UInt8)} {O : List (Nat × List UInt8)} {kept : List Bool} {torn at' : Int} : ∀ i, (lost S O kept torn at' i).length = S.length
  | 0 => rfl
  | i + 1 => by simp only [lost, List.length_set]; exact lost_length i
theorem lost_sec {S : List (List UInt8)} {O : List (Nat × List UInt8)} {kept : List Bool} {torn at' : Int} (hS : ∀ s ∈ S, s.length = 256) (hO : ∀ x ∈ O, x.2.length = 256 ∧ x.1 < S.length) : ∀ i, i ≤ O.length → ∀ s ∈ lost S O kept torn at' i, s.length = 256
  | 0, _ => hS
  | i + 1, hi => fun s hs => by
    have ih := lost_sec (kept := kept) (torn := torn) (at' := at') hS hO i (by omega)
    simp only [lost] at hs
    rcases List.mem_or_eq_of_mem_set hs with h | rfl
    · exact ih s h
    · have hx := hO _ (List.getElem_mem (show i < O.length by omega))
      have hl := lost_length (S := S) (O := O) (kept := kept) (torn := torn) (at' := at') i
      have h2 : ((lost S O kept torn at' i).getD (O[i]'(by omega)).1 []).length = 256 := by
        rw [List.getD_eq_getElem?_getD, List.getElem?_eq_getElem (by omega)]
        exact ih _ (List.getElem_mem _)
      have := lostN_le kept torn at' i
      simp only [List.getD_eq_getElem?_getD, List.getElem?_eq_getElem (show i < O.length by omega), Option.getD_some] at h2 ⊢
      simp only [List.length_append, List.length_take, List.length_drop, hx.1, h2]
      omega
theorem Dev.lose_ok {D : Dev} (hD : D.ok) (kept : List Bool) (torn at' : Int) : (D.lose kept torn at').ok :=
  { pos := by simp only [Dev.lose, lost_length]; exact hD.pos
    few := by simp only [Dev.lose, lost_length]; exact hD.few
    sec := lost_sec hD.sec hD.op _ (Nat.le_refl _)
    op := fun x hx => by cases hx
    fuse0 := by simp [Dev.lose]
    fuse1 := by simp [Dev.lose] }
def boolsV (l : List Bool) : List Value := l.map fun b => bool b
theorem Rd.cut {F : List Assn} {b o : Nat} {xs : List Value} (h : Rd F b o xs) (j m : Nat) : Rd F b (o + j) ((xs.drop j).take m) := fun w hs i u hu => by
  rw [List.getElem?_take] at hu
  split at hu
  · rw [List.getElem?_drop] at hu
    rw [Nat.add_assoc]
    exact h w hs _ u hu
  · cases hu
theorem secV_one (S : List (List UInt8)) : ∀ u ∈ secV S, u.oneCell' = true := by
  intro u hu
  obtain ⟨s, _, h⟩ := List.mem_flatMap.1 hu
  exact bytesV_one s u h
theorem sec_copy {S : List (List UInt8)} (h : ∀ s ∈ S, s.length = 256) {k : Nat} (hk : k < S.length) {l : List UInt8} (hl : l.length = 256) {m : Nat} (hm : m ≤ 256) (spare : List Value) :
    splice (secV S ++ spare) (k * 256) (bytesV (l.take m)) = secV (S.set k (l.take m ++ (S[k]).drop m)) ++ spare := by
  have e := secV_length h
  have hc : ∀ s ∈ S, (bytesV s).length = 256 := fun s hs => by simp [h s hs]
  have hv : (bytesV (l.take m)).length = m := by simp [hl]; omega
  have hsk : (S[k]).length = 256 := h _ (List.getElem_mem hk)
  have hy : (bytesV (l.take m ++ (S[k]).drop m)).length = 256 := by simp [hl, hsk]; omega
  have hkl : k * 256 + 256 ≤ (secV S).length := by rw [e]; omega
  rw [splice_left (by rw [hv]; omega)]
  congr 1
  have h2 := rows_splice (f := bytesV) hc hk hy
  have h2 : splice (secV S) (k * 256) (bytesV (l.take m ++ (S[k]).drop m)) = secV (S.set k (l.take m ++ (S[k]).drop m)) := h2
  rw [← h2, splice_eq _ _ _ (by rw [hv]; omega), splice_eq _ _ _ (by rw [hy]; omega), hv, hy, bytesV_append, List.append_assoc, List.append_assoc, List.append_assoc]
  congr 2
  have h3 : ((secV S).drop (k * 256)).take 256 = bytesV S[k] := rows_get (f := bytesV) hc hk
  rw [← List.drop_drop, ← List.drop_drop, ← bytesV_drop, ← h3]
  conv => lhs; rw [← List.take_append_drop 256 ((secV S).drop (k * 256))]
  rw [List.drop_append_of_le_length (by rw [h3]; simp [hsk]; omega)]
theorem lose_spec {F : List Assn} {p : Nat} {D : Dev} {w : World} {vk : Value} {nk : Nat} {kept : List Bool} {torn at' : Int} (hs : Sat (dev p D :: F) w) (hD : D.ok) (hO : D.O.length ≤ 100000) (hk : RdS F 1 vk nk (boolsV kept)) :
    Ret Tryd.prog 22 [ptr p, vk, int torn, int at'] w fun v w' => ∃ q, v = .tuple #[ptr q, int 0] ∧ Sat (dev q (D.lose kept torn at') :: dev p D :: F) w' := by
  have hsz := size_spec hs
  have hpos := hD.pos
  have hfew := hD.few
  obtain ⟨vs, vo, hs⟩ := dev_open hs
  obtain ⟨hsl, qs, cs, rfl, hcs⟩ := (hs.pull 1 rfl).sl_len
  obtain ⟨hol, qo, co, rfl, hco⟩ := (hs.pull 2 rfl).sl_len
  obtain ⟨qk, ck, rfl, hck, hkl, hkr⟩ := id hk
  have hnk : nk = kept.length := by simpa [boolsV] using hkl.symm
  subst hnk
  refine Ret.enter [(true, ptr p), (true, .slice qk kept.length ck), (true, int torn), (true, int at')] _ Tryd.func22 rfl Tryd.ntmps22 rfl ?_
  repeat (first | (refine MC.run1 tab 1000 rfl rfl (by first | exact True.intro | (simp only [Conds, rng, Int.toNat_natCast, List.length_append, bytesV_length] <;> omega) | (simp [Conds, rng] <;> omega) | (simp only [Conds, rng, wrap_u8, wrap_u16, wrap_u32, wrap_u64] <;> omega)) ?_) | (refine MC.la true (la_load1 hs rfl (by rfl)) rfl ?_))
  refine MC.does true (does_call rfl (hsz)) rfl ?_
  rintro _ w' ⟨rfl, rfl⟩
  repeat (first | (refine MC.run1 tab 1000 rfl rfl (by first | exact True.intro | (simp only [Conds, rng, Int.toNat_natCast, List.length_append, bytesV_length] <;> omega) | (simp [Conds, rng] <;> omega) | (simp only [Conds, rng, wrap_u8, wrap_u16, wrap_u32, wrap_u64] <;> omega)) ?_) | (refine MC.la true (la_load1 hs rfl (by rfl)) rfl ?_))
  refine MC.cond rfl (fun h => absurd h (by omega)) (fun _ => ?_)
  repeat (first | (refine MC.run1 tab 1000 rfl rfl (by first | exact True.intro | (simp only [Conds, rng, Int.toNat_natCast, List.length_append, bytesV_length] <;> omega) | (simp [Conds, rng] <;> omega) | (simp only [Conds, rng, wrap_u8, wrap_u16, wrap_u32, wrap_u64] <;> omega)) ?_) | (refine MC.la true (la_load1 hs rfl (by rfl)) rfl ?_))
  refine MC.does true (does_buildSlice0 hs) rfl ?_
  rintro _ w ⟨b9, rfl, hs⟩
  have hs := Sat.sl_mk (xs := []) (spare := []) (n := 0) (c := 0) (size := 256) hs (Nat.le_refl _) rfl rfl
  repeat (first | (refine MC.run1 tab 1000 rfl rfl (by first | exact True.intro | (simp only [Conds, rng, Int.toNat_natCast, List.length_append, bytesV_length] <;> omega) | (simp [Conds, rng] <;> omega) | (simp only [Conds, rng, wrap_u8, wrap_u16, wrap_u32, wrap_u64] <;> omega)) ?_) | (refine MC.la true (la_load1 hs rfl (by rfl)) rfl ?_))
  have hr1 := RdS.of_sl hs.tail.tail
  refine MC.does true (does_append hs rfl rfl (hr1.src (secV_one _)) (by omega) (by omega)) rfl ?_
  intro va w hs
  simp only [Nat.zero_add, List.nil_append] at hs
  rcases hs.sl_cases with ⟨_, h0, _⟩ | ⟨bx, cx, spare, rfl, hcx, _, hsp, hs⟩
  · omega
  refine MC.pure (f := true) (po_build (ls := [(0, [.slice (some ⟨bx, 0, none⟩) D.S.length cx])]) rfl rfl ⟨⟨_, rfl, by simp⟩, trivial⟩ rfl) rfl ?_
  refine MC.does true (does_box hs rfl rfl) rfl ?_
  rintro _ w ⟨q, rfl, hs⟩
  have hs := hs.swap
  have hr0 := RdS.of_sl hs.tail.tail.tail.tail
  repeat (first | (refine MC.run1 tab 1000 rfl rfl (by first | exact True.intro | (simp only [Conds, rng, Int.toNat_natCast, List.length_append, bytesV_length] <;> omega) | (simp [Conds, rng] <;> omega) | (simp only [Conds, rng, wrap_u8, wrap_u16, wrap_u32, wrap_u64] <;> omega)) ?_) | (refine MC.la true (la_load1 hs rfl (by rfl)) rfl ?_))
  refine MC.loop (σ := Nat) (fun i => [(1, true, .slice qk kept.length ck), (2, true, int torn), (3, true, int at'), (10, true, ptr q), (28, true, .slice qo D.O.length co), (29, true, int D.O.length), (30, true, int (i : Nat))])
    (fun i w => i ≤ D.O.length ∧ Sat (blk bx (secV (lost D.S D.O kept torn at' i) ++ spare) 81 :: blk q [.slice (some ⟨bx, 0, none⟩) D.S.length cx, .slice none 0 0, int 0, int 0] 43 :: blk p [.slice qs D.S.length cs, .slice qo D.O.length co, int D.reads, int D.fuse] 43 :: sl (.slice qs D.S.length cs) 81 256 D.S.length (secV D.S) :: sl (.slice qo D.O.length co) 83 257 D.O.length (opV D.O) :: F) w) (fun i => D.O.length - i) 0 (by repeat (first | exact trivial | refine ⟨rfl, ?_⟩)) ⟨by omega, hs⟩ ?_
  rintro i w ⟨hi, hs⟩
  repeat (first | (refine MC.run1 tab 1000 rfl rfl (by first | exact True.intro | (simp only [Conds, rng, Int.toNat_natCast, List.length_append, bytesV_length] <;> omega) | (simp [Conds, rng] <;> omega) | (simp only [Conds, rng, wrap_u8, wrap_u16, wrap_u32, wrap_u64] <;> omega)) ?_) | (refine MC.la true (la_load1 hs rfl (by rfl)) rfl ?_))
  refine MC.cond rfl (fun hlt => ?_) (fun hge => ?_)
  · have hlt : i < D.O.length := by omega
    obtain ⟨hx1, hx2⟩ := hD.op _ (List.getElem_mem hlt)
    obtain ⟨q', c', e1, h1, h2, h3⟩ := id hr0
    injection e1 with e1
    subst e1
    obtain ⟨bo, oo, rfl, hr⟩ := h3 (by omega)
    repeat (first | (refine MC.run1 tab 1000 rfl rfl (by first | exact True.intro | (simp only [Conds, rng, Int.toNat_natCast, List.length_append, bytesV_length] <;> omega) | (simp [Conds, rng] <;> omega) | (simp only [Conds, rng, wrap_u8, wrap_u16, wrap_u32, wrap_u64] <;> omega)) ?_) | (refine MC.la true (la_load1 hs rfl (by rfl)) rfl ?_))
    refine MC.la true (la_loadV_rd hr hs (j := i * 257) rfl (vs := opB D.O[i]) (rows_get (fun x hx => opB_length (hD.op x hx).1) hlt) (opB_length hx1) rfl) rfl ?_
    refine MC.does true (does_alloc hs) rfl ?_
    rintro _ w ⟨b12, rfl, hs⟩
    refine MC.run1 tab 1000 rfl rfl (by first | exact True.intro | (simp only [Conds, rng, Int.toNat_natCast, List.length_append, bytesV_length] <;> omega) | (simp [Conds, rng] <;> omega) | (simp only [Conds, rng, wrap_u8, wrap_u16, wrap_u32, wrap_u64] <;> omega)) ?_
    refine MC.does true (does_store (vs := opB D.O[i]) hs rfl rfl rfl (opB_length hx1) (opB_one _) (by simp)) rfl ?_
    intro _ w hs
    rw [splice_all (by simp [opB_length hx1])] at hs
    refine MC.run1 tab 1 rfl rfl (by first | exact True.intro | (simp only [Conds, rng, Int.toNat_natCast, List.length_append, bytesV_length] <;> omega) | (simp [Conds, rng] <;> omega) | (simp only [Conds, rng, wrap_u8, wrap_u16, wrap_u32, wrap_u64] <;> omega)) ?_
    refine MC.cut [(1, true, .slice qk kept.length ck), (2, true, int torn), (3, true, int at'), (10, true, ptr q), (28, true, .slice (some ⟨bo, oo, none⟩) D.O.length co), (29, true, int D.O.length), (30, true, int (i : Nat)), (11, true, int (i : Nat)), (12, true, ptr b12), (13, true, int 0)] (fun w' => w' = w) _ _ (fun w' e => ?_) ?_
    · subst e
      refine MC.cut [(1, true, .slice qk kept.length ck), (2, true, int torn), (3, true, int at'), (10, true, ptr q), (28, true, .slice (some ⟨bo, oo, none⟩) D.O.length co), (29, true, int D.O.length), (30, true, int (i : Nat)), (11, true, int (i : Nat)), (12, true, ptr b12), (13, true, int (if kept.getD i false then 256 else 0))] (fun w'' => w'' = w') _ _ (fun w'' e => ?_) ?_
      · subst e
        refine MC.cut [(1, true, .slice qk kept.length ck), (2, true, int torn), (3, true, int at'), (10, true, ptr q), (28, true, .slice (some ⟨bo, oo, none⟩) D.O.length co), (29, true, int D.O.length), (30, true, int (i : Nat)), (11, true, int (i : Nat)), (12, true, ptr b12), (13, true, int (lostN kept torn at' i : Nat))] (fun w' => w' = w'') _ _ (fun w' e => ?_) ?_
        · subst e
          have hLl := lost_length (S := D.S) (O := D.O) (kept := kept) (torn := torn) (at' := at') i
          have hLs := lost_sec (kept := kept) (torn := torn) (at' := at') hD.sec hD.op i (by omega)
          have hm := lostN_le kept torn at' i
          have hx3 : (((D.O[i]).1 : Nat) : Int).toNat = (D.O[i]).1 := Int.toNat_natCast _
          repeat (first | (refine MC.run1 tab 1000 rfl rfl (by first | exact True.intro | (simp only [Conds, rng, Int.toNat_natCast, List.length_append, bytesV_length] <;> omega) | (simp [Conds, rng] <;> omega) | (simp only [Conds, rng, wrap_u8, wrap_u16, wrap_u32, wrap_u64] <;> omega)) ?_) | (refine MC.la true (la_load1 hs rfl (by rfl)) rfl ?_))
          refine MC.draw hs [0,1,2,3,4,5,6,7,8,9,10,11] (by rfl) ?_; intro w hs
          repeat (first | (refine MC.run1 tab 1000 rfl rfl (by first | exact True.intro | (simp only [Conds, rng, Int.toNat_natCast, List.length_append, bytesV_length] <;> omega) | (simp [Conds, rng] <;> omega) | (simp only [Conds, rng, wrap_u8, wrap_u16, wrap_u32, wrap_u64] <;> omega)) ?_) | (refine MC.laD true (la_load1 hs rfl (by rfl)) rfl ?_))
          refine MC.pure (f := true) (po_sliceArr (n := 256) rfl) rfl ?_
          repeat (first | (refine MC.run1 tab 1000 rfl rfl (by first | exact True.intro | (simp only [Conds, rng, Int.toNat_natCast, List.length_append, bytesV_length] <;> omega) | (simp [Conds, rng] <;> omega) | (simp only [Conds, rng, wrap_u8, wrap_u16, wrap_u32, wrap_u64] <;> omega)) ?_) | (refine MC.laD true (la_load1 hs rfl (by rfl)) rfl ?_))
          refine MC.pure (f := true) (po_sliceArr_hi (n := 256) (j := lostN kept torn at' i) rfl rfl hm) rfl ?_
          have hsrc : RdS (blk b12 (opB D.O[i]) 83 :: blk bx (secV (lost D.S D.O kept torn at' i) ++ spare) 81 :: blk q [.slice (some ⟨bx, 0, none⟩) D.S.length cx, .slice none 0 0, int 0, int 0] 43 :: blk p [.slice qs D.S.length cs, .slice (some ⟨bo, oo, none⟩) D.O.length co, int D.reads, int D.fuse] 43 :: sl (.slice qs D.S.length cs) 81 256 D.S.length (secV D.S) :: sl (.slice (some ⟨bo, oo, none⟩) D.O.length co) 83 257 D.O.length (opV D.O) :: F) 1 (.slice (some ⟨b12, 0 + 1, none⟩) (lostN kept torn at' i) 256) (lostN kept torn at' i) (bytesV ((D.O[i]).2.take (lostN kept torn at' i))) :=
            ⟨_, _, rfl, hm, by simp [hx1]; omega, fun _ => ⟨b12, 0 + 1, rfl, by rw [← bytesV_take]; exact Rd.cut (Rd.of_at (b := b12) (cs := opB D.O[i])) 1 _⟩⟩
          refine MC.doesK true (does_copy hs rfl rfl (hsrc.src2 (bytesV_one _)) ?_) rfl rfl rfl ?_
          · have := secV_length hLs
            rw [List.length_append, this, hLl, hx3]; omega
          rintro _ w ⟨rfl, hs⟩
          refine ⟨⟨At.sat hs, At.sat hs, trivial⟩, ?_⟩
          have e2 : (bytesV ((D.O[i]).2.take (lostN kept torn at' i))).take (min (lostN kept torn at' i) 256 * 1) = bytesV ((D.O[i]).2.take (lostN kept torn at' i)) := List.take_of_length_le (by simp; omega)
          have e3 : lost D.S D.O kept torn at' (i + 1) = (lost D.S D.O kept torn at' i).set (D.O[i]).1 ((D.O[i]).2.take (lostN kept torn at' i) ++ ((lost D.S D.O kept torn at' i)[(D.O[i]).1]'(by omega)).drop (lostN kept torn at' i)) := by
            simp only [lost, List.getD_eq_getElem?_getD, List.getElem?_eq_getElem hlt, Option.getD_some, List.getElem?_eq_getElem (show (D.O[i]).1 < (lost D.S D.O kept torn at' i).length by omega)]
          rw [Nat.zero_add, hx3, e2, sec_copy hLs (by omega) hx1 hm, ← e3] at hs
          repeat (first | (refine MC.run1 tab 1000 rfl rfl (by first | exact True.intro | (simp only [Conds, rng, Int.toNat_natCast, List.length_append, bytesV_length] <;> omega) | (simp [Conds, rng] <;> omega) | (simp only [Conds, rng, wrap_u8, wrap_u16, wrap_u32, wrap_u64] <;> omega)) ?_) | (refine MC.la true (la_load1 hs rfl (by rfl)) rfl ?_))
          exact MC.again (i + 1) (by repeat (first | exact trivial | refine ⟨rfl, ?_⟩)) ⟨by omega, hs.tail⟩ (by omega)
        · repeat (first | (refine MC.run1 tab 1000 rfl rfl (by first | exact True.intro | (simp only [Conds, rng, Int.toNat_natCast, List.length_append, bytesV_length] <;> omega) | (simp [Conds, rng] <;> omega) | (simp only [Conds, rng, wrap_u8, wrap_u16, wrap_u32, wrap_u64] <;> omega)) ?_) | (refine MC.la true (la_load1 hs rfl (by rfl)) rfl ?_))
          refine MC.cond rfl (fun he => ?_) (fun he => ?_)
          · repeat (first | (refine MC.run1 tab 1000 rfl rfl (by first | exact True.intro | (simp only [Conds, rng, Int.toNat_natCast, List.length_append, bytesV_length] <;> omega) | (simp [Conds, rng] <;> omega) | (simp only [Conds, rng, wrap_u8, wrap_u16, wrap_u32, wrap_u64] <;> omega)) ?_) | (refine MC.la true (la_load1 hs rfl (by rfl)) rfl ?_))
            rw [show ((lostN kept torn at' i : Nat) : Int) = max 0 (min at' 256) by simp only [lostN, if_pos he]; omega]
            exact MC.meet (by repeat (first | exact trivial | refine ⟨rfl, ?_⟩)) rfl
          · repeat (first | (refine MC.run1 tab 1000 rfl rfl (by first | exact True.intro | (simp only [Conds, rng, Int.toNat_natCast, List.length_append, bytesV_length] <;> omega) | (simp [Conds, rng] <;> omega) | (simp only [Conds, rng, wrap_u8, wrap_u16, wrap_u32, wrap_u64] <;> omega)) ?_) | (refine MC.la true (la_load1 hs rfl (by rfl)) rfl ?_))
            rw [show ((lostN kept torn at' i : Nat) : Int) = if kept.getD i false then 256 else 0 by simp only [lostN, if_neg he]; split <;> rfl]
            exact MC.meet (by repeat (first | exact trivial | refine ⟨rfl, ?_⟩)) rfl
      · repeat (first | (refine MC.run1 tab 1000 rfl rfl (by first | exact True.intro | (simp only [Conds, rng, Int.toNat_natCast, List.length_append, bytesV_length] <;> omega) | (simp [Conds, rng] <;> omega) | (simp only [Conds, rng, wrap_u8, wrap_u16, wrap_u32, wrap_u64] <;> omega)) ?_) | (refine MC.la true (la_load1 hs rfl (by rfl)) rfl ?_))
        refine MC.part rfl rfl (fun hk1 => ?_) (fun hk1 => ?_)
        · obtain ⟨bk, ok, rfl, hkr1⟩ := hkr (by omega)
          repeat (first | (refine MC.run1 tab 1000 rfl rfl (by first | exact True.intro | (simp only [Conds, rng, Int.toNat_natCast, List.length_append, bytesV_length] <;> omega) | (simp [Conds, rng] <;> omega) | (simp only [Conds, rng, wrap_u8, wrap_u16, wrap_u32, wrap_u64] <;> omega)) ?_) | (refine MC.la true (la_load1 hs rfl (by rfl)) rfl ?_))
          have hik : i < kept.length := by omega
          have hkv : (boolsV kept)[((i : Nat) : Int).toNat * 1]? = some (bool (kept.getD i false)) := by
            rw [Int.toNat_natCast, Nat.mul_one]; simp [boolsV, List.getD_eq_getElem?_getD, hik]
          refine MC.la false (la_load1_rd hkr1 hs (j := ((i : Nat) : Int).toNat * 1) rfl hkv) rfl ?_
          repeat (first | (refine MC.run1 tab 1000 rfl rfl (by first | exact True.intro | (simp only [Conds, rng, Int.toNat_natCast, List.length_append, bytesV_length] <;> omega) | (simp [Conds, rng] <;> omega) | (simp only [Conds, rng, wrap_u8, wrap_u16, wrap_u32, wrap_u64] <;> omega)) ?_) | (refine MC.la true (la_load1 hs rfl (by rfl)) rfl ?_))
          refine MC.condB rfl (fun hb => ?_) (fun hb => ?_)
          · repeat (first | (refine MC.run1 tab 1000 rfl rfl (by first | exact True.intro | (simp only [Conds, rng, Int.toNat_natCast, List.length_append, bytesV_length] <;> omega) | (simp [Conds, rng] <;> omega) | (simp only [Conds, rng, wrap_u8, wrap_u16, wrap_u32, wrap_u64] <;> omega)) ?_) | (refine MC.la true (la_load1 hs rfl (by rfl)) rfl ?_))
            rw [hb]
            exact MC.meet (by repeat (first | exact trivial | refine ⟨rfl, ?_⟩)) rfl
          · repeat (first | (refine MC.run1 tab 1000 rfl rfl (by first | exact True.intro | (simp only [Conds, rng, Int.toNat_natCast, List.length_append, bytesV_length] <;> omega) | (simp [Conds, rng] <;> omega) | (simp only [Conds, rng, wrap_u8, wrap_u16, wrap_u32, wrap_u64] <;> omega)) ?_) | (refine MC.la true (la_load1 hs rfl (by rfl)) rfl ?_))
            rw [hb]
            exact MC.meet (by repeat (first | exact trivial | refine ⟨rfl, ?_⟩)) rfl
        · repeat (first | (refine MC.run1 tab 1000 rfl rfl (by first | exact True.intro | (simp only [Conds, rng, Int.toNat_natCast, List.length_append, bytesV_length] <;> omega) | (simp [Conds, rng] <;> omega) | (simp only [Conds, rng, wrap_u8, wrap_u16, wrap_u32, wrap_u64] <;> omega)) ?_) | (refine MC.la true (la_load1 hs rfl (by rfl)) rfl ?_))
          have hb : kept.getD i false = false := by
            rw [List.getD_eq_getElem?_getD, List.getElem?_eq_none (by omega)]; rfl
          rw [hb]
          exact MC.meet (by repeat (first | exact trivial | refine ⟨rfl, ?_⟩)) rfl
    · repeat (first | (refine MC.run1 tab 1000 rfl rfl (by first | exact True.intro | (simp only [Conds, rng, Int.toNat_natCast, List.length_append, bytesV_length] <;> omega) | (simp [Conds, rng] <;> omega) | (simp only [Conds, rng, wrap_u8, wrap_u16, wrap_u32, wrap_u64] <;> omega)) ?_) | (refine MC.la true (la_load1 hs rfl (by rfl)) rfl ?_))
      exact MC.meet (by repeat (first | exact trivial | refine ⟨rfl, ?_⟩)) rfl
  · have hi' : i = D.O.length := by omega
    subst hi'
    repeat (first | (refine MC.run1 tab 1000 rfl rfl (by first | exact True.intro | (simp only [Conds, rng, Int.toNat_natCast, List.length_append, bytesV_length] <;> omega) | (simp [Conds, rng] <;> omega) | (simp only [Conds, rng, wrap_u8, wrap_u16, wrap_u32, wrap_u64] <;> omega)) ?_) | (refine MC.la true (la_load1 hs rfl (by rfl)) rfl ?_))
    refine MC.ret rfl ?_
    refine ⟨q, rfl, ?_⟩
    have hl := lost_length (S := D.S) (O := D.O) (kept := kept) (torn := torn) (at' := at') D.O.length
    have hse := secV_length (lost_sec (kept := kept) (torn := torn) (at' := at') hD.sec hD.op _ (Nat.le_refl _))
    have h1 := hs.sl_mk (n := D.S.length) (c := cx) (size := 256) hcx (by rw [hse, hl]) (by rw [hse, hl, ← hsp, hsl])
    have h2 := (h1.sl_nil 83 257).pickF 6 [3, 4, 5, 2, 1, 0] rfl rfl
    have hs := dev_shut (D := D) h2
    (try dsimp only [List.eraseIdx, List.cons_append, List.nil_append, List.drop_succ_cons, List.drop_zero, List.append_eq] at hs)
    have h3 := hs.pickF 4 [1, 2, 3, 0] rfl rfl
    refine dev_shut (vs := .slice (some ⟨bx, 0, none⟩) D.S.length cx) (vo := .slice none 0 0) ?_
    rw [show (D.lose kept torn at').S.length = D.S.length from hl]
    exact h3
end Go.Proofs.YtoigogonccjagaaDoor
