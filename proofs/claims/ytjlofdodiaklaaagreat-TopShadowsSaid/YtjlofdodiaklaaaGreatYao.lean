/-
  The device: a loss of power | The laws' helpers: the examples | Roots: numbers as bytes, and sums | The cache: what one says of the heap; find, pinned, sweep | Roots: sums, numbers out of bytes, a sector's bytes
-/
import Derived.Test.YtjlofdodiaklaaaGreatYan
import Derived.Test.YtjlofdodiaklaaaGreatYal
import Derived.Test.YtjlofdodiaklaaaGreatYam
import Derived.Test.YtjlofdodiaklaaaGreatYag
set_option linter.unusedVariables false
set_option linter.unusedSimpArgs false
namespace Go.Proofs.YtjlofdodiaklaaaGreat
open Go Go.Sl
attribute [local irreducible] LooksAt

def lostN (kept : List Bool) (torn at' : Int) (i : Nat) : Nat := if (i : Int) = torn then (max 0 (min at' 256)).toNat else if kept.getD i false then 256 else 0
def lost (S : List (List UInt8)) (O : List (Nat × List UInt8)) (kept : List Bool) (torn at' : Int) : Nat → List (List UInt8)
  | 0 => S
  | i + 1 =>
    let T := lost S O kept torn at' i
    let x := O.getD i (0, [])
    T.set x.1 (x.2.take (lostN kept torn at' i) ++ (T.getD x.1 []).drop (lostN kept torn at' i))
def Dev.lose (D : Dev) (kept : List Bool) (torn at' : Int) : Dev := ⟨lost D.S D.O kept torn at' D.O.length, [], 0, 0⟩
theorem lostN_le (kept : List Bool) (torn at' : Int) (i : Nat) : lostN kept torn at' i ≤ 256 := by
  simp only [lostN]; split
  · omega
  · split <;> omega
theorem lost_length {S : List (List UInt8)} {O : List (Nat × List UInt8)} {kept : List Bool} {torn at' : Int} : ∀ i, (lost S O kept torn at' i).length = S.length
  | 0 => rfl
  | i + 1 => by simp only [lost, List.length_set]; exact lost_length i
theorem lost_sec {S : List (List UInt8)} {O : List (Nat × List UInt8)} {kept : List Bool} {torn at' : Int} (hS : ∀ s ∈ S, s.length = 256) (hO : ∀ x ∈ O, x.2.length = 256 ∧ x.1 < S.length) : ∀ i, i ≤ O.length → ∀ s ∈ lost S O kept torn at' i, s.length = 256
  | 0, _ => hS
  | i + 1, hi => fun s hs => by
    have ih := lost_sec (kept := kept) (torn := torn) (at' := at') hS hO i (by omega)
    simp only [lost] at hs
    rcases List.mem_or_eq_of_mem_set hs with h | rfl
    · exact ih s h
    · have hx := hO _ (List.getElem_mem (show i < O.length by omega))
      have hl := lost_length (S := S) (O := O) (kept := kept) (torn := torn) (at' := at') i
      have h2 : ((lost S O kept torn at' i).getD (O[i]'(by omega)).1 []).length = 256 := by
        rw [List.getD_eq_getElem?_getD, List.getElem?_eq_getElem (by omega)]
        exact ih _ (List.getElem_mem _)
      have := lostN_le kept torn at' i
      simp only [List.getD_eq_getElem?_getD, List.getElem?_eq_getElem (show i < O.length by omega), Option.getD_some] at h2 ⊢
      simp only [List.length_append, List.length_take, List.length_drop, hx.1, h2]
      omega
theorem Dev.lose_ok {D : Dev} (hD : D.ok) (kept : List Bool) (torn at' : Int) : (D.lose kept torn at').ok :=
  { pos := by simp only [Dev.lose, lost_length]; exact hD.pos
    few := by simp only [Dev.lose, lost_length]; exact hD.few
    sec := lost_sec hD.sec hD.op _ (Nat.le_refl _)
    op := fun x hx => by cases hx
    fuse0 := by simp [Dev.lose]
    fuse1 := by simp [Dev.lose] }
def boolsV (l : List Bool) : List Value := l.map fun b => bool b
theorem Rd.cut {F : List Assn} {b o : Nat} {xs : List Value} (h : Rd F b o xs) (j m : Nat) : Rd F b (o + j) ((xs.drop j).take m) := fun w hs i u hu => by
  rw [List.getElem?_take] at hu
  split at hu
  · rw [List.getElem?_drop] at hu
    rw [Nat.add_assoc]
    exact h w hs _ u hu
  · cases hu
theorem secV_one (S : List (List UInt8)) : ∀ u ∈ secV S, u.oneCell' = true := by
  intro u hu
  obtain ⟨s, _, h⟩ := List.mem_flatMap.1 hu
  exact bytesV_one s u h
theorem sec_copy {S : List (List UInt8)} (h : ∀ s ∈ S, s.length = 256) {k : Nat} (hk : k < S.length) {l : List UInt8} (hl : l.length = 256) {m : Nat} (hm : m ≤ 256) (spare : List Value) :
    splice (secV S ++ spare) (k * 256) (bytesV (l.take m)) = secV (S.set k (l.take m ++ (S[k]).drop m)) ++ spare := by
  have e := secV_length h
  have hc : ∀ s ∈ S, (bytesV s).length = 256 := fun s hs => by simp [h s hs]
  have hv : (bytesV (l.take m)).length = m := by simp [hl]; omega
  have hsk : (S[k]).length = 256 := h _ (List.getElem_mem hk)
  have hy : (bytesV (l.take m ++ (S[k]).drop m)).length = 256 := by simp [hl, hsk]; omega
  have hkl : k * 256 + 256 ≤ (secV S).length := by rw [e]; omega
  rw [splice_left (by rw [hv]; omega)]
  congr 1
  have h2 := rows_splice (f := bytesV) hc hk hy
  have h2 : splice (secV S) (k * 256) (bytesV (l.take m ++ (S[k]).drop m)) = secV (S.set k (l.take m ++ (S[k]).drop m)) := h2
  rw [← h2, splice_eq _ _ _ (by rw [hv]; omega), splice_eq _ _ _ (by rw [hy]; omega), hv, hy, bytesV_append, List.append_assoc, List.append_assoc, List.append_assoc]
  congr 2
  have h3 : ((secV S).drop (k * 256)).take 256 = bytesV S[k] := rows_get (f := bytesV) hc hk
  rw [← List.drop_drop, ← List.drop_drop, ← bytesV_drop, ← h3]
  conv => lhs; rw [← List.take_append_drop 256 ((secV S).drop (k * 256))]
  rw [List.drop_append_of_le_length (by rw [h3]; simp [hsk]; omega)]
theorem lose_spec {F : List Assn} {p : Nat} {D : Dev} {w : World} {vk : Value} {nk : Nat} {kept : List Bool} {torn at' : Int} (hs : Sat (dev p D :: F) w) (hD : D.ok) (hO : D.O.length ≤ 100000) (hk : RdS F 1 vk nk (boolsV kept)) :
    Ret Tryz.prog 19 [ptr p, vk, int torn, int at'] w fun v w' => ∃ q, v = .tuple #[ptr q, int 0] ∧ Sat (dev q (D.lose kept torn at') :: dev p D :: F) w' := by
  have hsz := size_spec hs
  have hpos := hD.pos
  have hfew := hD.few
  obtain ⟨vs, vo, hs⟩ := dev_open hs
  obtain ⟨hsl, qs, cs, rfl, hcs⟩ := (hs.pull 1 rfl).sl_len
  obtain ⟨hol, qo, co, rfl, hco⟩ := (hs.pull 2 rfl).sl_len
  obtain ⟨qk, ck, rfl, hck, hkl, hkr⟩ := id hk
  have hnk : nk = kept.length := by simpa [boolsV] using hkl.symm
  subst hnk
  refine Ret.enter [(true, ptr p), (true, .slice qk kept.length ck), (true, int torn), (true, int at')] _ Tryz.func19 rfl Tryz.ntmps19 rfl ?_
  repeat first | refine zg tab rfl rfl ?_ | refine zl (za hs rfl) ?_
  refine MC.does true (does_call rfl (hsz)) rfl ?_
  rintro _ w' ⟨rfl, rfl⟩
  repeat first | refine zg tab rfl rfl ?_ | refine zl (za hs rfl) ?_
  refine MC.cond rfl (fun h => absurd h (by omega)) (fun _ => ?_)
  repeat first | refine zg tab rfl rfl ?_ | refine zl (za hs rfl) ?_
  refine MC.does true (does_buildSlice0 hs) rfl ?_
  rintro _ w ⟨b9, rfl, hs⟩
  have hs := Sat.sl_mk (xs := []) (spare := []) (n := 0) (c := 0) (size := 256) hs (Nat.le_refl _) rfl rfl
  repeat first | refine zg tab rfl rfl ?_ | refine zl (za hs rfl) ?_
  have hr1 := RdS.of_sl hs.tail.tail
  refine MC.does true (does_append hs rfl rfl (hr1.src (secV_one _)) (by omega) (by omega)) rfl ?_
  intro va w hs
  simp only [Nat.zero_add, List.nil_append] at hs
  rcases hs.sl_cases with ⟨_, h0, _⟩ | ⟨bx, cx, spare, rfl, hcx, _, hsp, hs⟩
  · omega
  refine MC.pure (f := true) (po_build (ls := [(0, [.slice (some ⟨bx, 0, none⟩) D.S.length cx])]) rfl rfl ⟨⟨_, rfl, by simp⟩, trivial⟩ rfl) rfl ?_
  refine MC.does true (does_box hs rfl rfl) rfl ?_
  rintro _ w ⟨q, rfl, hs⟩
  have hs := hs.swap
  have hr0 := RdS.of_sl hs.tail.tail.tail.tail
  repeat first | refine zg tab rfl rfl ?_ | refine zl (za hs rfl) ?_
  refine MC.loop (σ := Nat) (fun i => [(1, true, .slice qk kept.length ck), (2, true, int torn), (3, true, int at'), (10, true, ptr q), (28, true, .slice qo D.O.length co), (29, true, int D.O.length), (30, true, int (i : Nat))])
    (fun i w => i ≤ D.O.length ∧ Sat (blk bx (secV (lost D.S D.O kept torn at' i) ++ spare) 112 :: blk q [.slice (some ⟨bx, 0, none⟩) D.S.length cx, .slice none 0 0, int 0, int 0] 67 :: blk p [.slice qs D.S.length cs, .slice qo D.O.length co, int D.reads, int D.fuse] 67 :: sl (.slice qs D.S.length cs) 112 256 D.S.length (secV D.S) :: sl (.slice qo D.O.length co) 114 257 D.O.length (opV D.O) :: F) w) (fun i => D.O.length - i) 0 (by repeat (first | exact trivial | refine ⟨rfl, ?_⟩)) ⟨by omega, hs⟩ ?_
  rintro i w ⟨hi, hs⟩
  repeat first | refine zg tab rfl rfl ?_ | refine zl (za hs rfl) ?_
  refine MC.cond rfl (fun hlt => ?_) (fun hge => ?_)
  · have hlt : i < D.O.length := by omega
    obtain ⟨hx1, hx2⟩ := hD.op _ (List.getElem_mem hlt)
    obtain ⟨q', c', e1, h1, h2, h3⟩ := id hr0
    injection e1 with e1
    subst e1
    obtain ⟨bo, oo, rfl, hr⟩ := h3 (by omega)
    repeat first | refine zg tab rfl rfl ?_ | refine zl (za hs rfl) ?_
    refine MC.la true (la_loadV_rd hr hs (j := i * 257) rfl (vs := opB D.O[i]) (rows_get (fun x hx => opB_length (hD.op x hx).1) hlt) (opB_length hx1) rfl) rfl ?_
    refine MC.does true (does_alloc hs) rfl ?_
    rintro _ w ⟨b12, rfl, hs⟩
    refine zg tab rfl rfl ?_
    refine MC.does true (does_store (vs := opB D.O[i]) hs rfl rfl rfl (opB_length hx1) (opB_one _) (by simp)) rfl ?_
    intro _ w hs
    rw [splice_all (by simp [opB_length hx1])] at hs
    refine MC.run1 tab 1 rfl rfl (by first | exact True.intro | (simp only [Conds, rng, Int.toNat_natCast, List.length_append, bytesV_length] <;> omega) | (simp [Conds, rng] <;> omega) | (simp only [Conds, rng, wrap_u8, wrap_u16, wrap_u32, wrap_u64] <;> omega)) ?_
    refine MC.cut [(1, true, .slice qk kept.length ck), (2, true, int torn), (3, true, int at'), (10, true, ptr q), (28, true, .slice (some ⟨bo, oo, none⟩) D.O.length co), (29, true, int D.O.length), (30, true, int (i : Nat)), (11, true, int (i : Nat)), (12, true, ptr b12), (13, true, int 0)] (fun w' => w' = w) _ _ (fun w' e => ?_) ?_
    · subst e
      refine MC.cut [(1, true, .slice qk kept.length ck), (2, true, int torn), (3, true, int at'), (10, true, ptr q), (28, true, .slice (some ⟨bo, oo, none⟩) D.O.length co), (29, true, int D.O.length), (30, true, int (i : Nat)), (11, true, int (i : Nat)), (12, true, ptr b12), (13, true, int (if kept.getD i false then 256 else 0))] (fun w'' => w'' = w') _ _ (fun w'' e => ?_) ?_
      · subst e
        refine MC.cut [(1, true, .slice qk kept.length ck), (2, true, int torn), (3, true, int at'), (10, true, ptr q), (28, true, .slice (some ⟨bo, oo, none⟩) D.O.length co), (29, true, int D.O.length), (30, true, int (i : Nat)), (11, true, int (i : Nat)), (12, true, ptr b12), (13, true, int (lostN kept torn at' i : Nat))] (fun w' => w' = w'') _ _ (fun w' e => ?_) ?_
        · subst e
          have hLl := lost_length (S := D.S) (O := D.O) (kept := kept) (torn := torn) (at' := at') i
          have hLs := lost_sec (kept := kept) (torn := torn) (at' := at') hD.sec hD.op i (by omega)
          have hm := lostN_le kept torn at' i
          have hx3 : (((D.O[i]).1 : Nat) : Int).toNat = (D.O[i]).1 := Int.toNat_natCast _
          repeat first | refine zg tab rfl rfl ?_ | refine zl (za hs rfl) ?_
          refine MC.draw hs [0,1,2,3,4,5,6,7,8,9,10,11] (by rfl) ?_; intro w hs
          repeat first | refine zg tab rfl rfl ?_ | refine zm (za hs rfl) ?_
          refine MC.pure (f := true) (po_sliceArr (n := 256) rfl) rfl ?_
          repeat first | refine zg tab rfl rfl ?_ | refine zm (za hs rfl) ?_
          refine MC.pure (f := true) (po_sliceArr_hi (n := 256) (j := lostN kept torn at' i) rfl rfl hm) rfl ?_
          have hsrc : RdS (blk b12 (opB D.O[i]) 114 :: blk bx (secV (lost D.S D.O kept torn at' i) ++ spare) 112 :: blk q [.slice (some ⟨bx, 0, none⟩) D.S.length cx, .slice none 0 0, int 0, int 0] 67 :: blk p [.slice qs D.S.length cs, .slice (some ⟨bo, oo, none⟩) D.O.length co, int D.reads, int D.fuse] 67 :: sl (.slice qs D.S.length cs) 112 256 D.S.length (secV D.S) :: sl (.slice (some ⟨bo, oo, none⟩) D.O.length co) 114 257 D.O.length (opV D.O) :: F) 1 (.slice (some ⟨b12, 0 + 1, none⟩) (lostN kept torn at' i) 256) (lostN kept torn at' i) (bytesV ((D.O[i]).2.take (lostN kept torn at' i))) :=
            ⟨_, _, rfl, hm, by simp [hx1]; omega, fun _ => ⟨b12, 0 + 1, rfl, by rw [← bytesV_take]; exact Rd.cut (Rd.of_at (b := b12) (cs := opB D.O[i])) 1 _⟩⟩
          refine MC.doesK true (does_copy hs rfl rfl (hsrc.src2 (bytesV_one _)) ?_) rfl rfl rfl ?_
          · have := secV_length hLs
            rw [List.length_append, this, hLl, hx3]; omega
          rintro _ w ⟨rfl, hs⟩
          refine ⟨⟨At.sat hs, At.sat hs, trivial⟩, ?_⟩
          have e2 : (bytesV ((D.O[i]).2.take (lostN kept torn at' i))).take (min (lostN kept torn at' i) 256 * 1) = bytesV ((D.O[i]).2.take (lostN kept torn at' i)) := List.take_of_length_le (by simp; omega)
          have e3 : lost D.S D.O kept torn at' (i + 1) = (lost D.S D.O kept torn at' i).set (D.O[i]).1 ((D.O[i]).2.take (lostN kept torn at' i) ++ ((lost D.S D.O kept torn at' i)[(D.O[i]).1]'(by omega)).drop (lostN kept torn at' i)) := by
            simp only [lost, List.getD_eq_getElem?_getD, List.getElem?_eq_getElem hlt, Option.getD_some, List.getElem?_eq_getElem (show (D.O[i]).1 < (lost D.S D.O kept torn at' i).length by omega)]
          rw [Nat.zero_add, hx3, e2, sec_copy hLs (by omega) hx1 hm, ← e3] at hs
          repeat first | refine zg tab rfl rfl ?_ | refine zl (za hs rfl) ?_
          exact MC.again (i + 1) (by repeat (first | exact trivial | refine ⟨rfl, ?_⟩)) ⟨by omega, hs.tail⟩ (by omega)
        · repeat first | refine zg tab rfl rfl ?_ | refine zl (za hs rfl) ?_
          refine MC.cond rfl (fun he => ?_) (fun he => ?_)
          · repeat first | refine zg tab rfl rfl ?_ | refine zl (za hs rfl) ?_
            rw [show ((lostN kept torn at' i : Nat) : Int) = max 0 (min at' 256) by simp only [lostN, if_pos he]; omega]
            exact MC.meet (by repeat (first | exact trivial | refine ⟨rfl, ?_⟩)) rfl
          · repeat first | refine zg tab rfl rfl ?_ | refine zl (za hs rfl) ?_
            rw [show ((lostN kept torn at' i : Nat) : Int) = if kept.getD i false then 256 else 0 by simp only [lostN, if_neg he]; split <;> rfl]
            exact MC.meet (by repeat (first | exact trivial | refine ⟨rfl, ?_⟩)) rfl
      · repeat first | refine zg tab rfl rfl ?_ | refine zl (za hs rfl) ?_
        refine MC.part rfl rfl (fun hk1 => ?_) (fun hk1 => ?_)
        · obtain ⟨bk, ok, rfl, hkr1⟩ := hkr (by omega)
          repeat first | refine zg tab rfl rfl ?_ | refine zl (za hs rfl) ?_
          have hik : i < kept.length := by omega
          have hkv : (boolsV kept)[((i : Nat) : Int).toNat * 1]? = some (bool (kept.getD i false)) := by
            rw [Int.toNat_natCast, Nat.mul_one]; simp [boolsV, List.getD_eq_getElem?_getD, hik]
          refine MC.la false (la_load1_rd hkr1 hs (j := ((i : Nat) : Int).toNat * 1) rfl hkv) rfl ?_
          repeat first | refine zg tab rfl rfl ?_ | refine zl (za hs rfl) ?_
          refine MC.condB rfl (fun hb => ?_) (fun hb => ?_)
          · repeat first | refine zg tab rfl rfl ?_ | refine zl (za hs rfl) ?_
            rw [hb]
            exact MC.meet (by repeat (first | exact trivial | refine ⟨rfl, ?_⟩)) rfl
          · repeat first | refine zg tab rfl rfl ?_ | refine zl (za hs rfl) ?_
            rw [hb]
            exact MC.meet (by repeat (first | exact trivial | refine ⟨rfl, ?_⟩)) rfl
        · repeat first | refine zg tab rfl rfl ?_ | refine zl (za hs rfl) ?_
          have hb : kept.getD i false = false := by
            rw [List.getD_eq_getElem?_getD, List.getElem?_eq_none (by omega)]; rfl
          rw [hb]
          exact MC.meet (by repeat (first | exact trivial | refine ⟨rfl, ?_⟩)) rfl
    · repeat first | refine zg tab rfl rfl ?_ | refine zl (za hs rfl) ?_
      exact MC.meet (by repeat (first | exact trivial | refine ⟨rfl, ?_⟩)) rfl
  · have hi' : i = D.O.length := by omega
    subst hi'
    repeat first | refine zg tab rfl rfl ?_ | refine zl (za hs rfl) ?_
    refine MC.ret rfl ?_
    refine ⟨q, rfl, ?_⟩
    have hl := lost_length (S := D.S) (O := D.O) (kept := kept) (torn := torn) (at' := at') D.O.length
    have hse := secV_length (lost_sec (kept := kept) (torn := torn) (at' := at') hD.sec hD.op _ (Nat.le_refl _))
    have h1 := hs.sl_mk (n := D.S.length) (c := cx) (size := 256) hcx (by rw [hse, hl]) (by rw [hse, hl, ← hsp, hsl])
    have h2 := (h1.sl_nil 114 257).pickF 6 [3, 4, 5, 2, 1, 0] rfl rfl
    have hs := dev_shut (D := D) h2
    (try dsimp only [List.eraseIdx, List.cons_append, List.nil_append, List.drop_succ_cons, List.drop_zero, List.append_eq] at hs)
    have h3 := hs.pickF 4 [1, 2, 3, 0] rfl rfl
    refine dev_shut (vs := .slice (some ⟨bx, 0, none⟩) D.S.length cx) (vo := .slice none 0 0) ?_
    rw [show (D.lose kept torn at').S.length = D.S.length from hl]
    exact h3
end Go.Proofs.YtjlofdodiaklaaaGreat

namespace Go.Proofs.YtjlofdodiaklaaaGreat
open Go Go.Sl
attribute [local irreducible] LooksAt

theorem RdS.nil (F : List Assn) (size : Nat) : RdS F size (.slice none 0 0) 0 [] := ⟨none, 0, rfl, Nat.le_refl _, by simp, fun h => by simp at h⟩
theorem bytesV_get {l : List UInt8} {j : Nat} {c : UInt8} (h : l[j]? = some c) : (bytesV l)[j]? = some (byte c) := by
  simp only [bytesV, List.getElem?_map, h]; rfl
theorem read_ok {F : List Assn} {p : Nat} {D : Dev} {w : World} {k : Int} (hs : Sat (dev p D :: F) w) (hD : D.ok) (hO : D.O.length ≤ 100000) (h0 : D.wrong k 256 = 0) :
    Ret Tryz.prog 26 [ptr p, int k] w fun v w' => ∃ vb, v = .tuple #[vb, int 0] ∧ Sat (sl vb 5 1 256 (bytesV (D.get k.toNat)) :: dev p D.red :: F) w' :=
  (read_spec hs hD hO).mono fun v w' h => by rw [if_pos h0] at h; exact h
theorem write_ok {F : List Assn} {p : Nat} {D : Dev} {w : World} {k : Int} {vb : Value} {nb : Nat} {l : List UInt8} (hs : Sat (dev p D :: F) w) (hD : D.ok) (hl : RdS F 1 vb nb (bytesV l)) (hO : D.O.length ≤ 100000) (h0 : D.wrong k l.length = 0) :
    Ret Tryz.prog 42 [ptr p, int k, vb] w fun v w' => v = int 0 ∧ Sat (dev p (D.write k.toNat l) :: F) w' :=
  (write_spec hs hD hl hO).mono fun v w' h => by rw [if_pos h0, h0] at h; exact h
theorem sync_ok {F : List Assn} {p : Nat} {D : Dev} {w : World} (hs : Sat (dev p D :: F) w) (hD : D.ok) (hO : D.O.length ≤ 100000) (h0 : D.wrong 0 256 = 0) :
    Ret Tryz.prog 43 [ptr p] w fun v w' => v = int 0 ∧ Sat (dev p D.sync :: F) w' :=
  (sync_spec hs hD hO).mono fun v w' h => by rw [if_pos h0, h0] at h; exact h
end Go.Proofs.YtjlofdodiaklaaaGreat

namespace Go.Proofs.YtjlofdodiaklaaaGreat
open Go Go.Sl
attribute [local irreducible] LooksAt

def intsV (l : List Int) : List Value := l.map fun n => int n
theorem intsV_one (l : List Int) : ∀ u ∈ intsV l, u.oneCell' = true := by
  intro u hu
  obtain ⟨n, _, rfl⟩ := List.mem_map.1 hu
  rfl
theorem intsV_get (l : List Int) (i : Nat) (h : i < l.length) : (intsV l)[((i : Nat) : Int).toNat * 1]? = some (int l[i]) := by
  rw [Int.toNat_natCast, Nat.mul_one]; simp [intsV, h]
theorem intsV_append (l m : List Int) : intsV (l ++ m) = intsV l ++ intsV m := by simp [intsV]
theorem bytesV_at (l : List UInt8) (i : Nat) (h : i < l.length) : (bytesV l)[((i : Nat) : Int).toNat * 1]? = some (byte l[i]) := by
  rw [Int.toNat_natCast, Nat.mul_one]; simp [bytesV, h]
def byteOf (n : Int) : UInt8 := UInt8.ofNat (n % 256).toNat
theorem byteOf_wrap (n : Int) : Value.int .u8 (IntKind.u8.wrap n) = byte (byteOf n) := by
  have h0 : 0 ≤ n % 256 := Int.emod_nonneg _ (by decide)
  have h1 : n % 256 < 256 := Int.emod_lt_of_pos _ (by decide)
  have e : ((byteOf n).toNat : Int) = n % 256 := by rw [byteOf, UInt8.toNat_ofNat']; omega
  rw [byte, e]
  simp [IntKind.wrap, IntKind.signed, IntKind.bits]
def le4 (n : Int) : List UInt8 := [byteOf n, byteOf (n / 256), byteOf (n / 65536), byteOf (n / 16777216)]
@[simp] theorem le4_length (n : Int) : (le4 n).length = 4 := rfl
theorem le4_all (l : List Int) : (l.flatMap le4).length = l.length * 4 := by
  induction l with
  | nil => rfl
  | cons n l ih => rw [List.flatMap_cons, List.length_append, ih, le4_length, List.length_cons]; omega
theorem number_spec {F : List Assn} {w : World} {vl : Value} {xs : List Int} (hs : Sat F w) (hx : RdS F 1 vl xs.length (intsV xs)) (hl : xs.length ≤ 9223372036854775807) :
    Ret Tryz.prog 44 [vl] w fun v w' => v = bool (decide (∀ n ∈ xs, 0 ≤ n ∧ n ≤ 2147483647)) ∧ w' = w := by
  obtain ⟨q, c, rfl, hc, _⟩ := hx.shape
  refine Ret.enter [(true, .slice q xs.length c)] _ Tryz.func44 rfl Tryz.ntmps44 rfl ?_
  refine zz ?_
  refine MC.loop (σ := Nat) (fun i => [(5, true, .slice q xs.length c), (6, true, int xs.length), (7, true, int ((i : Nat) : Int))])
    (fun i w' => i ≤ xs.length ∧ (∀ n ∈ xs.take i, 0 ≤ n ∧ n ≤ 2147483647) ∧ w' = w) (fun i => xs.length - i) 0 (by repeat (first | exact trivial | refine ⟨rfl, ?_⟩)) ⟨by omega, by simp, rfl⟩ ?_
  rintro i w' ⟨hi, hall, rfl⟩
  refine zz ?_
  refine MC.cond rfl (fun hlt => ?_) (fun hge => ?_)
  · have hlt : i < xs.length := by omega
    obtain ⟨b, o, rfl, hr⟩ := hx.at_ (by omega)
    refine zz ?_
    refine MC.la true (la_load1_rd hr hs (j := ((i : Nat) : Int).toNat * 1) rfl (intsV_get xs i hlt)) rfl ?_
    have hm : xs[i] ∈ xs := List.getElem_mem hlt
    refine zz ?_
    refine MC.part rfl rfl (fun h1 => ?_) (fun h1 => ?_)
    · refine zz ?_
      refine MC.ret rfl ?_
      refine ⟨congrArg Value.bool (decide_eq_false fun h => ?_).symm, rfl⟩
      have := (h _ hm).1
      omega
    · refine zz ?_
      refine MC.cond rfl (fun h2 => ?_) (fun h2 => ?_)
      · refine zz ?_
        refine MC.ret rfl ?_
        refine ⟨congrArg Value.bool (decide_eq_false fun h => ?_).symm, rfl⟩
        have := (h _ hm).2
        omega
      · refine zz ?_
        refine MC.again (i + 1) (by repeat (first | exact trivial | refine ⟨rfl, ?_⟩)) ⟨hlt, fun n hn => ?_, rfl⟩ (by omega)
        rw [List.take_add_one, List.getElem?_eq_getElem hlt] at hn
        rcases List.mem_append.1 hn with h | h
        · exact hall n h
        · have : n = xs[i] := by simpa using h
          subst this
          omega
  · obtain rfl : i = xs.length := by omega
    rw [List.take_length] at hall
    refine zz ?_
    refine MC.ret rfl ?_
    exact ⟨congrArg Value.bool (decide_eq_true hall).symm, rfl⟩
theorem put_spec {F : List Assn} {w : World} {vb vl : Value} {l : List UInt8} {xs : List Int} (hs : Sat (sl vb 5 1 l.length (bytesV l) :: F) w) (hx : RdS F 1 vl xs.length (intsV xs)) (hl : l.length + 4 * xs.length ≤ 1000000) :
    Ret Tryz.prog 78 [vb, vl] w fun v w' => Sat (sl v 5 1 (l ++ xs.flatMap le4).length (bytesV (l ++ xs.flatMap le4)) :: F) w' := by
  obtain ⟨q, c, rfl, hc, _⟩ := hx.shape
  obtain ⟨_, qb, cb, rfl, _⟩ := hs.sl_len
  refine Ret.enter [(true, .slice qb l.length cb), (true, .slice q xs.length c)] _ Tryz.func78 rfl Tryz.ntmps78 rfl ?_
  refine zz ?_
  refine MC.loop (σ := Nat × Value) (fun s => [(0, true, s.2), (7, true, .slice q xs.length c), (8, true, int xs.length), (9, true, int ((s.1 : Nat) : Int))])
    (fun s w => s.1 ≤ xs.length ∧ Sat (sl s.2 5 1 (l ++ (xs.take s.1).flatMap le4).length (bytesV (l ++ (xs.take s.1).flatMap le4)) :: F) w) (fun s => xs.length - s.1) (0, .slice qb l.length cb) (by repeat (first | exact trivial | refine ⟨rfl, ?_⟩)) ⟨by omega, by simpa using hs⟩ ?_
  rintro ⟨i, v⟩ w ⟨hi, hs⟩
  have hi : i ≤ xs.length := hi
  have hs : Sat (sl v 5 1 (l ++ (xs.take i).flatMap le4).length (bytesV (l ++ (xs.take i).flatMap le4)) :: F) w := hs
  have hlen : (l ++ (xs.take i).flatMap le4).length ≤ 1000000 := by
    rw [List.length_append, le4_all, List.length_take]; omega
  dsimp only []
  refine zz ?_
  refine MC.cond rfl (fun hlt => ?_) (fun hge => ?_)
  · have hlt : i < xs.length := by omega
    obtain ⟨b, o, rfl, hr⟩ := hx.at_ (by omega)
    have hlen2 : (l ++ (xs.take i).flatMap le4).length + 4 ≤ 1000000 := by
      rw [List.length_append, le4_all, List.length_take]; omega
    refine zz ?_
    refine MC.la true (la_load1_rd hr hs (j := ((i : Nat) : Int).toNat * 1) rfl (intsV_get xs i hlt)) rfl ?_
    refine zz ?_
    rw [byteOf_wrap, byteOf_wrap, byteOf_wrap, byteOf_wrap]
    refine MC.does true (does_buildL hs rfl rfl rfl (all1 rfl) rfl) rfl ?_; rintro _ w ⟨b4, rfl, hs⟩
    refine MC.does true (does_append hs rfl rfl (src_at rfl (bytesV_one (le4 xs[i]))) (by omega) (by omega)) rfl ?_
    intro va w hs
    refine zz ?_
    refine MC.again (i + 1, va) (by repeat (first | exact trivial | refine ⟨rfl, ?_⟩)) ⟨hlt, ?_⟩ (by show xs.length - (i + 1) < xs.length - i; omega)
    have e : l ++ (xs.take (i + 1)).flatMap le4 = (l ++ (xs.take i).flatMap le4) ++ le4 xs[i] := by
      rw [List.take_add_one, List.getElem?_eq_getElem hlt, List.flatMap_append]; simp
    show Sat (sl va _ 1 (l ++ (xs.take (i + 1)).flatMap le4).length (bytesV (l ++ (xs.take (i + 1)).flatMap le4)) :: F) w
    have hl2 : ((l ++ (xs.take i).flatMap le4) ++ le4 xs[i]).length = (l ++ (xs.take i).flatMap le4).length + 4 := by rw [List.length_append, le4_length]
    rw [e, hl2, bytesV_append]
    exact hs.tail
  · obtain rfl : i = xs.length := by omega
    rw [List.take_length] at hs
    refine zz ?_
    refine MC.ret rfl ?_
    exact hs
end Go.Proofs.YtjlofdodiaklaaaGreat

set_option maxHeartbeats 1000000
namespace Go.Proofs.YtjlofdodiaklaaaGreat
open Go Go.Sl
attribute [local irreducible] LooksAt

structure Frm where
  held : Bool
  sec : Int
  pins : Int
  late : Bool
  qa : Option Addr
  ln : Nat
  cp : Nat
  b : List UInt8
abbrev Frm.v (f : Frm) : Value := .slice f.qa f.ln f.cp
def Frm.row (f : Frm) : List Value := [bool f.held, int f.sec, int f.pins, bool f.late, .slice f.qa f.ln f.cp]
def frsV (fs : List Frm) : List Value := fs.flatMap Frm.row
theorem frsV_length (fs : List Frm) : (frsV fs).length = fs.length * 5 := rows_length fun _ _ => rfl
theorem frs_at {fs : List Frm} {i r : Nat} (h : i < fs.length) (hr : r < 5) : (frsV fs)[0 + ((i : Nat) : Int).toNat * 5 + r]? = (Frm.row fs[i])[r]? := by
  rw [Int.toNat_natCast, Nat.zero_add]
  exact rows_cell (f := Frm.row) (c := 5) (fun _ _ => rfl) h hr
theorem frs_set {fs : List Frm} {i r : Nat} {u : Value} {f' : Frm} (h : i < fs.length) (hr : (Frm.row fs[i]).set r u = Frm.row f') (hr5 : r < 5) : (frsV fs).set (i * 5 + r) u = frsV (fs.set i f') := by
  have hl := frsV_length fs
  apply List.ext_getElem?
  intro j
  have hl2 := frsV_length (fs.set i f')
  rw [List.length_set] at hl2
  rcases Nat.lt_or_ge j (fs.length * 5) with hj | hj
  · obtain ⟨a, c, rfl, ha, hc⟩ : ∃ a c, j = a * 5 + c ∧ a < fs.length ∧ c < 5 := ⟨j / 5, j % 5, by omega, by omega, by omega⟩
    have e2 : (frsV (fs.set i f'))[a * 5 + c]? = (Frm.row ((fs.set i f')[a]'(by simpa using ha)))[c]? := rows_cell (f := Frm.row) (c := 5) (fun _ _ => rfl) (by simpa using ha) hc
    have e1 : (frsV fs)[a * 5 + c]? = (Frm.row fs[a])[c]? := rows_cell (f := Frm.row) (c := 5) (fun _ _ => rfl) ha hc
    rw [e2, List.getElem?_set]
    by_cases hai : a = i
    · subst hai
      have e3 : (fs.set a f')[a]'(by simpa using ha) = f' := by simp
      rw [e3, ← hr, List.getElem?_set]
      by_cases hcr : c = r
      · subst hcr
        rw [if_pos rfl, if_pos rfl, if_pos (by rw [hl]; omega), if_pos (by show c < 5; exact hc)]
      · rw [if_neg (by omega), if_neg (by omega), e1]
    · have e3 : (fs.set i f')[a]'(by simpa using ha) = fs[a] := by rw [List.getElem_set_ne (by omega)]
      rw [e3, if_neg (by omega), e1]
  · rw [List.getElem?_eq_none (by rw [List.length_set]; omega), List.getElem?_eq_none (by omega)]
abbrev cblk (q pd bl n qc : Nat) (hand hits misses : Int) : Assn := blk q [ptr pd, .slice (some ⟨bl, 0, none⟩) n n, .chan (some qc), int hand, int hits, int misses] 72
abbrev fblk (bl : Nat) (fs : List Frm) : Assn := blk bl (frsV fs) 118
theorem cnone_spec {F : List Assn} {G : List Value → List Assn} {q pd : Nat} {cs : List Value} {w : World} (hs : Sat F w) [hA : At F q (ptr pd :: cs) 72 G] :
    Ret Tryz.prog 52 [ptr q] w fun v w' => v = bool false ∧ w' = w := by
  refine Ret.enter [(true, ptr q)] _ Tryz.func52 rfl Tryz.ntmps52 rfl ?_
  refine zz ?_
  refine MC.ret rfl ?_
  exact ⟨rfl, rfl⟩
theorem find_spec {F : List Assn} {G G2 : List Value → List Assn} {q pd bl qc n : Nat} {a b c : Value} {fs : List Frm} {w : World} (hs : Sat F w) [hA : At F q [ptr pd, .slice (some ⟨bl, 0, none⟩) n n, .chan (some qc), a, b, c] 72 G] [hB : At F bl (frsV fs) 118 G2] (hn : fs.length = n) (hn2 : n ≤ 64) (k : Int) :
    Ret Tryz.prog 80 [ptr q, int k] w fun v w' => w' = w ∧ ((∃ (i : Nat) (h : i < fs.length), fs[i].held = true ∧ fs[i].sec = k ∧ v = .tuple #[.pointer (some ⟨bl, i * 5, none⟩), int ((i : Nat) : Int)]) ∨ ((∀ f ∈ fs, f.held = true → f.sec ≠ k) ∧ v = .tuple #[.pointer none, int 0])) := by
  refine Ret.enter [(true, ptr q), (true, int k)] _ Tryz.func80 rfl Tryz.ntmps80 rfl ?_
  refine zz ?_
  refine MC.loop (σ := Nat) (fun i => [(0, true, ptr q), (1, true, int k), (11, true, int ((n : Nat) : Int)), (12, true, int ((i : Nat) : Int))]) (fun i w' => i ≤ n ∧ (∀ (j : Nat) (h : j < fs.length), j < i → fs[j].held = true → fs[j].sec ≠ k) ∧ w' = w) (fun i => n - i) 0 (by repeat (first | exact trivial | refine ⟨rfl, ?_⟩)) ⟨Nat.zero_le _, fun j _ h => by omega, rfl⟩ ?_
  rintro i w' ⟨hi, hno, rfl⟩
  rcases Nat.lt_or_ge i n with hlt | hge
  · have h0 := frs_at (fs := fs) (i := i) (r := 0) (by omega) (by decide)
    have h1 := frs_at (fs := fs) (i := i) (r := 1) (by omega) (by decide)
    have hno' := fun (hc : ¬ (fs[i]'(by omega)).held = true ∨ ¬ (fs[i]'(by omega)).sec = k) (j : Nat) (h : j < fs.length) (hj : j < i + 1) => show fs[j].held = true → fs[j].sec ≠ k from fun hh => by
      rcases Nat.lt_or_ge j i with h' | h'
      · exact hno j h h' hh
      · obtain rfl : j = i := by omega
        rcases hc with hc | hc
        · exact absurd hh hc
        · exact hc
    obtain ⟨f, hf⟩ : ∃ f, fs[i]'(by omega) = f := ⟨_, rfl⟩
    have hf' : fs[i]'(by omega) = f := hf
    obtain ⟨held, sec, pins, late, qa, ln, cp, bb⟩ := f
    rw [hf] at h0 h1 hno'
    dsimp only [] at hno'
    refine zz ?_
    refine MC.la false (la_load1 hs rfl h0) rfl ?_
    cases held
    · refine MC.go1 tab rfl rfl ?_
      refine MC.splitB (t := 23) (b := false) rfl (fun h => absurd h (by decide)) (fun _ => ?_)
      refine zz ?_
      exact MC.again (i + 1) (by repeat (first | exact trivial | refine ⟨rfl, ?_⟩)) ⟨hlt, hno' (.inl (by decide)), rfl⟩ (by omega)
    · refine MC.go1 tab rfl rfl ?_
      refine MC.splitB (t := 23) (b := true) rfl (fun _ => ?_) (fun h => absurd h (by decide))
      refine zz ?_
      refine MC.la true (la_load1 hs rfl h1) rfl ?_
      by_cases hk : sec = k
      · subst hk
        refine zz ?_
        refine MC.cond rfl (fun _ => ?_) (fun h => by exact absurd rfl h)
        refine zz ?_
        refine MC.ret rfl ?_
        refine ⟨rfl, .inl ⟨i, by omega, by rw [hf'], by rw [hf'], ?_⟩⟩
        rw [show (0 : Nat) + Int.toNat ((i : Nat) : Int) * 5 = i * 5 by rw [Int.toNat_natCast]; omega]
        rfl
      · refine zz ?_
        exact MC.again (i + 1) (by repeat (first | exact trivial | refine ⟨rfl, ?_⟩)) ⟨hlt, hno' (.inr hk), rfl⟩ (by omega)
  · obtain rfl : i = n := by omega
    refine zz ?_
    refine MC.ret rfl ?_
    refine ⟨rfl, .inr ⟨fun f hf => ?_, rfl⟩⟩
    obtain ⟨j, hj, rfl⟩ := List.mem_iff_getElem.1 hf
    exact hno j hj (by omega)
end Go.Proofs.YtjlofdodiaklaaaGreat

namespace Go.Proofs.YtjlofdodiaklaaaGreat
open Go Go.Sl
attribute [local irreducible] LooksAt

def sumFrom (s : Nat) (l : List UInt8) : Nat := l.foldl (fun s c => (s ^^^ c.toNat) * 16777619 % 4294967296) s
def sumOf (l : List UInt8) : Nat := sumFrom 2166136261 l
theorem sumFrom_lt {s : Nat} (hs : s < 4294967296) : ∀ (l : List UInt8), sumFrom s l < 4294967296
  | [] => hs
  | c :: l => sumFrom_lt (s := (s ^^^ c.toNat) * 16777619 % 4294967296) (by omega) l
theorem sumOf_lt (l : List UInt8) : sumOf l < 4294967296 := by
  unfold sumOf
  exact sumFrom_lt (by decide) l
theorem i64max : IntKind.i64.max = 9223372036854775807 := by decide
theorem sumFrom_take {s : Nat} {l : List UInt8} {i : Nat} (hi : i < l.length) : sumFrom s (l.take (i + 1)) = (sumFrom s (l.take i) ^^^ l[i].toNat) * 16777619 % 4294967296 := by
  simp only [sumFrom]
  rw [List.take_add_one, List.getElem?_eq_getElem hi, List.foldl_append, Option.toList_some, List.foldl_cons, List.foldl_nil]
abbrev u32 (n : Nat) : Value := .int .u32 (n : Int)
theorem more_spec {F : List Assn} {w : World} {vl : Value} {l : List UInt8} {s : Nat} (hs : Sat F w) (hx : RdS F 1 vl l.length (bytesV l)) (h0 : s < 4294967296) (hl : l.length ≤ 9223372036854775807) :
    Ret Tryz.prog 101 [u32 s, vl] w fun v w' => v = u32 (sumFrom s l) ∧ w' = w := by
  obtain ⟨q, c, rfl, hc, _⟩ := hx.shape
  refine Ret.enter [(true, u32 s), (true, .slice q l.length c)] _ Tryz.func101 rfl Tryz.ntmps101 rfl ?_
  refine zz ?_
  refine MC.loop (σ := Nat) (fun i => [(0, true, u32 (sumFrom s (l.take i))), (7, true, .slice q l.length c), (8, true, int l.length), (9, true, int ((i : Nat) : Int))])
    (fun i w' => i ≤ l.length ∧ w' = w) (fun i => l.length - i) 0 (by repeat (first | exact trivial | refine ⟨rfl, ?_⟩)) ⟨by omega, rfl⟩ ?_
  rintro i w' ⟨hi, rfl⟩
  refine zz ?_
  refine MC.cond rfl (fun hlt => ?_) (fun hge => ?_)
  · have hlt : i < l.length := by omega
    obtain ⟨b, o, rfl, hr⟩ := hx.at_ (by omega)
    have hsl := sumFrom_lt h0 (l.take i)
    have hst := sumFrom_take (s := s) hlt
    generalize sumFrom s (l.take i) = a at hsl hst
    have hcb := UInt8.toNat_lt l[i]
    refine zz ?_
    refine MC.la true (la_load1_rd hr hs (j := ((i : Nat) : Int).toNat * 1) rfl (bytesV_at l i hlt)) rfl ?_
    generalize l[i] = ch at hst hcb
    have e1 : IntKind.u32.wrap (ch.toNat : Int) = ch.toNat := by rw [wrap_u32]; omega
    refine zz ?_
    refine MC.again (i + 1) ⟨?_, rfl, rfl, rfl, trivial⟩ ⟨hlt, rfl⟩ (by omega)
    refine congrArg (fun n => some (Value.int .u32 n)) ?_
    rw [hst, wrap_u32, e1]
    simp only [Int.toNat_natCast]
    omega
  · obtain rfl : i = l.length := by omega
    rw [List.take_length]
    refine zz ?_
    refine MC.ret rfl ?_
    exact ⟨rfl, rfl⟩
theorem sum_spec {F : List Assn} {w : World} {vl : Value} {l : List UInt8} (hs : Sat F w) (hx : RdS F 1 vl l.length (bytesV l)) (hl : l.length ≤ 9223372036854775807) :
    Ret Tryz.prog 79 [vl] w fun v w' => v = u32 (sumOf l) ∧ w' = w := by
  obtain ⟨q, c, rfl, hc, _⟩ := hx.shape
  refine Ret.enter [(true, .slice q l.length c)] _ Tryz.func79 rfl Tryz.ntmps79 rfl ?_
  refine zz ?_
  refine MC.does true (does_call rfl (more_spec (s := 2166136261) hs hx (by decide) hl)) rfl ?_
  rintro _ w' ⟨rfl, rfl⟩
  refine zz ?_
  refine MC.ret rfl ?_
  exact ⟨rfl, rfl⟩
def get4 (l : List UInt8) (k : Nat) : Int := ((l.getD k 0).toNat : Int) + ((l.getD (k + 1) 0).toNat : Int) * 256 + ((l.getD (k + 2) 0).toNat : Int) * 65536 + ((l.getD (k + 3) 0).toNat : Int) * 16777216
theorem bytesV_atI (l : List UInt8) (n : Int) (k : Nat) (e : n = (k : Int)) (h : k < l.length) : (bytesV l)[n.toNat * 1]? = some (byte (l.getD k 0)) := by
  subst e
  rw [Int.toNat_natCast, Nat.mul_one]; simp [bytesV, h, List.getD_eq_getElem?_getD]
theorem get_spec {F : List Assn} {w : World} {vl : Value} {l : List UInt8} (k : Nat) (hs : Sat F w) (hx : RdS F 1 vl l.length (bytesV l)) (hk : k + 4 ≤ l.length) (hl : l.length ≤ 1000000) :
    Ret Tryz.prog 55 [vl, int (k : Int)] w fun v w' => v = int (get4 l k) ∧ Sat F w' := by
  obtain ⟨q, c, rfl, hc, _⟩ := hx.shape
  obtain ⟨b, o, rfl, hr⟩ := hx.at_ (by omega)
  have b0 := UInt8.toNat_lt (l.getD k 0)
  have b1 := UInt8.toNat_lt (l.getD (k + 1) 0)
  have b2 := UInt8.toNat_lt (l.getD (k + 2) 0)
  have b3 := UInt8.toNat_lt (l.getD (k + 3) 0)
  refine Ret.enter [(true, .slice (some ⟨b, o, none⟩) l.length c), (true, int (k : Int))] _ Tryz.func55 rfl Tryz.ntmps55 rfl ?_
  refine zz ?_
  refine MC.draw hs [0,1,2,3,4,5,6,7,8,9,10,11,12,13,14,15,16,17,18,19,20,21,22,23,24,25,26,27,28,29] (by rfl) ?_; intro w hs
  refine zd ?_
  refine MC.laD true (la_load1_rd hr hs (j := (k : Int).toNat * 1) rfl (bytesV_atI l _ k rfl (by omega))) rfl ?_
  refine zd ?_
  refine MC.laD true (la_load1_rd hr hs (j := ((k : Int) + 1).toNat * 1) rfl (bytesV_atI l _ (k + 1) rfl (by omega))) rfl ?_
  refine zd ?_
  refine MC.pure (f := true) (po_bin rfl rfl (br_orS 8 (l.getD (k + 1) 0).toNat (by omega) (by omega) rfl (by rw [i64max]; omega))) rfl ?_
  refine zd ?_
  refine MC.laD true (la_load1_rd hr hs (j := ((k : Int) + 2).toNat * 1) rfl (bytesV_atI l _ (k + 2) rfl (by omega))) rfl ?_
  refine zd ?_
  refine MC.pure (f := true) (po_bin rfl rfl (br_orS 16 (l.getD (k + 2) 0).toNat (by omega) (by omega) rfl (by rw [i64max]; omega))) rfl ?_
  refine zd ?_
  refine MC.laD true (la_load1_rd hr hs (j := ((k : Int) + 3).toNat * 1) rfl (bytesV_atI l _ (k + 3) rfl (by omega))) rfl ?_
  refine zd ?_
  refine MC.pure (f := true) (po_bin rfl rfl (br_orS 24 (l.getD (k + 3) 0).toNat (by omega) (by omega) rfl (by rw [i64max]; omega))) rfl ?_
  refine zd ?_
  refine MC.ret rfl ?_
  exact ⟨rfl, hs⟩
theorem equal_spec {F : List Assn} {w : World} {va vb : Value} {l m : List UInt8} (hs : Sat F w) (hl : RdS F 1 va l.length (bytesV l)) (hm : RdS F 1 vb m.length (bytesV m)) :
    Ret Tryz.prog 56 [va, vb] w fun v w' => v = bool (decide (l = m)) ∧ w' = w := by
  obtain ⟨q, c, rfl, hc, _⟩ := hl.shape
  obtain ⟨q', c', rfl, hc', _⟩ := hm.shape
  refine Ret.enter [(true, .slice q l.length c), (true, .slice q' m.length c')] _ Tryz.func56 rfl Tryz.ntmps56 rfl ?_
  refine zz ?_
  refine MC.la true (la_tostr rfl hl hs) rfl ?_
  refine zz ?_
  refine MC.la true (la_tostr rfl hm hs) rfl ?_
  refine zz ?_
  refine MC.ret rfl ?_
  exact ⟨rfl, rfl⟩
def headB (which epoch : Int) (f : List Int) : List UInt8 := le4 epoch ++ [byteOf which, byteOf f.length] ++ f.flatMap le4
def bodyB (which epoch : Int) (f : List Int) : List UInt8 := headB which epoch f ++ many (248 - (headB which epoch f).length) 0
def sectorB (which epoch : Int) (f : List Int) : List UInt8 := bodyB which epoch f ++ [(sumOf (bodyB which epoch f) : Int), epoch].flatMap le4
theorem headB_length (which epoch : Int) (f : List Int) : (headB which epoch f).length = 6 + f.length * 4 := by
  simp only [headB, List.length_append, le4_all, le4_length, List.length_cons, List.length_nil]
theorem bodyB_length {which epoch : Int} {f : List Int} (hf : f.length ≤ 40) : (bodyB which epoch f).length = 248 := by
  simp only [bodyB, List.length_append, headB_length, many_length]; omega
theorem sectorB_length {which epoch : Int} {f : List Int} (hf : f.length ≤ 40) : (sectorB which epoch f).length = 256 := by
  simp only [sectorB, List.length_append, bodyB_length hf, le4_all, List.length_cons, List.length_nil]
theorem sector_spec {F : List Assn} {w : World} {vl : Value} {f : List Int} (which epoch : Int) (hs : Sat F w) (hx : RdS F 1 vl f.length (intsV f)) (hf : f.length ≤ 40) :
    Ret Tryz.prog 46 [int which, int epoch, vl] w fun v w' => Sat (sl v 5 1 256 (bytesV (sectorB which epoch f)) :: F) w' := by
  obtain ⟨q, c, rfl, hc, _⟩ := hx.shape
  refine Ret.enter [(true, int which), (true, int epoch), (true, .slice q f.length c)] _ Tryz.func46 rfl Tryz.ntmps46 rfl ?_
  refine zz ?_
  refine MC.does true (does_buildL hs rfl rfl rfl (all1 rfl) rfl) rfl ?_; rintro _ w ⟨b1, rfl, hs⟩
  have hs := hs.sl_nil 5 1
  refine MC.does true (does_call rfl (put_spec (l := []) (xs := [epoch]) hs ⟨_, _, rfl, Nat.le_refl _, rfl, fun _ => ⟨b1, 0, rfl, Rd.of_at⟩⟩ (by simp))) rfl ?_
  intro v1 w hs
  have e1 : [] ++ [epoch].flatMap le4 = le4 epoch := by simp
  rw [e1] at hs
  have hs := hs.pickF 2 [0] rfl rfl
  obtain ⟨_, q1, c1, rfl, _⟩ := hs.sl_len
  refine zz ?_
  rw [byteOf_wrap, byteOf_wrap]
  refine MC.does true (does_buildL hs rfl rfl rfl (all1 rfl) rfl) rfl ?_; rintro _ w ⟨b2, rfl, hs⟩
  refine MC.does true (does_append hs rfl rfl (src_at rfl (bytesV_one [byteOf which, byteOf f.length])) (by simp) (by simp)) rfl ?_
  intro v2 w hs
  have hs := hs.pickF 2 [1] rfl rfl
  rw [← bytesV_append] at hs
  obtain ⟨_, q2, c2, rfl, _⟩ := hs.sl_len
  refine zz ?_
  refine MC.does true (does_call rfl (put_spec (l := le4 epoch ++ [byteOf which, byteOf f.length]) (xs := f) hs hx (by simp; omega))) rfl ?_
  intro v3 w hs
  obtain ⟨_, q3, c3, rfl, _⟩ := hs.sl_len
  have hhl := headB_length which epoch f
  have hs : Sat (sl (.slice q3 (headB which epoch f).length c3) 5 1 (headB which epoch f).length (bytesV (headB which epoch f)) :: F) w := hs
  have eh : le4 epoch ++ [byteOf which, byteOf f.length] ++ f.flatMap le4 = headB which epoch f := rfl
  rw [eh]
  have hbb : bytesV (headB which epoch f) ++ rep (248 - (headB which epoch f).length) [.int .u8 0] = bytesV (bodyB which epoch f) := by
    rw [rep_one', ← bytesV_zeros, ← bytesV_append]; rfl
  have hbl := bodyB_length (which := which) (epoch := epoch) hf
  have hH : (headB which epoch f).length + (248 - (headB which epoch f).length) = (bodyB which epoch f).length := by omega
  refine zz ?_
  refine MC.does true (does_append0 (m := 248 - (headB which epoch f).length) hs rfl rfl (by omega) rfl (by omega) (by omega)) rfl ?_
  intro v4 w hs
  rw [hbb, hH] at hs
  obtain ⟨_, q4, c4, rfl, _⟩ := hs.sl_len
  have hsum := sumOf_lt (bodyB which epoch f)
  refine zz ?_
  refine MC.does true (does_call rfl (sum_spec hs (RdS.of_sl hs) (by omega))) rfl ?_
  rintro _ w' ⟨rfl, rfl⟩
  refine zz ?_
  refine MC.does true (does_buildL hs rfl rfl rfl (all1 rfl) rfl) rfl ?_; rintro _ w ⟨b5, rfl, hs⟩
  have hs := hs.swap
  refine MC.does true (does_call rfl (put_spec (l := bodyB which epoch f) (xs := [(sumOf (bodyB which epoch f) : Int), epoch]) hs ⟨_, _, rfl, Nat.le_refl _, rfl, fun _ => ⟨b5, 0, rfl, Rd.of_at⟩⟩ (by rw [hbl]; simp))) rfl ?_
  intro v5 w hs
  have hs := hs.pickF 2 [0] rfl rfl
  refine zz ?_
  refine MC.ret rfl ?_
  have hse := sectorB_length (which := which) (epoch := epoch) hf
  have hs : Sat (sl v5 5 1 (sectorB which epoch f).length (bytesV (sectorB which epoch f)) :: F) w := hs
  rw [hse] at hs
  exact hs
end Go.Proofs.YtjlofdodiaklaaaGreat
