/-
  Chains: read, Get, Drop | Sorting in place: swapping two stretches | Chains: Get, Drop | Sorting in place: rotating
-/
import Derived.Test.YtkccjgllanpebaaGreatDoorYav
set_option maxHeartbeats 1000000
set_option linter.unusedVariables false
set_option linter.unusedSimpArgs false
namespace Go.Proofs.YtkccjgllanpebaaGreatDoor
open Go Go.Sl Go.Tr
attribute [local irreducible] LooksAt
theorem Bd_open {F : List Assn} {b9 b10 : Nat} {l : List Nat} {out : Bs} {w : World} (hs : Sat (Bd b9 b10 l out :: F) w) : ∃ q n c q' n' c', n = l.length ∧ n' = out.length ∧ Sat (blk b9 [.slice q n c] 67 :: sl (.slice q n c) 3 1 l.length (bufV l) :: blk b10 [.slice q' n' c'] 33 :: sl (.slice q' n' c') 5 1 out.length (bytesV out) :: F) w := by
  obtain ⟨vl, hs⟩ := Sat.ex_iff.1 hs
  obtain ⟨vo, hs⟩ := Sat.ex_iff.1 hs
  have hs := Sat.unstar (l := [_, _, _, _]) hs
  obtain ⟨_, q, c, rfl, _⟩ := hs.tail.sl_len
  obtain ⟨_, q', c', rfl, _⟩ := hs.tail.tail.tail.sl_len
  exact ⟨q, _, c, q', _, c', rfl, rfl, hs⟩
theorem Bd_mk {F : List Assn} {b9 b10 : Nat} {l : List Nat} {out : Bs} {vl vo : Value} {w : World} (hs : Sat (blk b9 [vl] 67 :: sl vl 3 1 l.length (bufV l) :: blk b10 [vo] 33 :: sl vo 5 1 out.length (bytesV out) :: F) w) : Sat (Bd b9 b10 l out :: F) w :=
  Sat.ex_iff.2 ⟨vl, Sat.ex_iff.2 ⟨vo, Sat.restar (l := [_, _, _, _]) hs⟩⟩
section
variable {F : List Assn} {z : Pw} {s : St} {mk : Option (Nat × St)} {w : World}
theorem cpages_spec {F : List Assn} {p head size : Nat} {w : World} (hs : Sat F w) :
    Ret Tryz.prog 139 [ptr p, int ((head : Nat) : Int), int ((size : Nat) : Int)] w fun v w' => ∃ bsz bp bh, v = .func (.func 158) #[] #[ptr bsz, ptr bp, ptr bh] ∧ Sat (blk bsz [int ((size : Nat) : Int)] 3 :: blk bp [ptr p] 23 :: blk bh [int ((head : Nat) : Int)] 3 :: F) w' := by
  refine Ret.enter [(true, ptr p), (true, int ((head : Nat) : Int)), (true, int ((size : Nat) : Int))] _ Tryz.func139 rfl Tryz.ntmps139 rfl ?_
  refine zz ?_
  refine MC.does true (does_box hs rfl rfl) rfl ?_; rintro _ w ⟨bp, rfl, hs⟩
  refine zz ?_
  refine MC.does true (does_box hs rfl rfl) rfl ?_; rintro _ w ⟨bh, rfl, hs⟩
  refine zz ?_
  refine MC.does true (does_box hs rfl rfl) rfl ?_; rintro _ w ⟨bsz, rfl, hs⟩
  refine zz ?_
  refine MC.pure (f := true) (po_makeFunc (vf := []) (vc := [ptr bsz, ptr bp, ptr bh]) rfl rfl) rfl ?_
  refine zz ?_
  refine MC.ret rfl ?_
  exact ⟨bsz, bp, bh, rfl, hs.pickF 3 [0, 2, 1] rfl rfl⟩
def OutR (m : M (List Nat × Bs)) (z : Pw) (s : St) (mk : Option (Nat × St)) (F : List Assn) : Value → World → Prop := Out m s
  (fun x s' v w => ∃ vl vo, v = .tuple #[vl, vo, int 0] ∧ Sat (sl vl 3 1 x.1.length (bufV x.1) :: sl vo 5 1 x.2.length (bytesV x.2) :: pgr z s' mk :: F) w)
  (fun e s' v w => v = .tuple #[.slice none 0 0, .slice none 0 0, int e] ∧ Sat (pgr z s' mk :: F) w)
theorem cread_spec {head size : Nat} (hs : Sat (pgr z s mk :: F) w) (hh : head ≤ 100000) (hsz : size ≤ 4294967296) :
    Ret Tryz.prog 113 [ptr z.p, int ((head : Nat) : Int), int ((size : Nat) : Int)] w (OutR (chainRead z.E head size) z s mk F) := by
  refine Ret.enterM [(true, ptr z.p), (true, int ((head : Nat) : Int)), (true, int ((size : Nat) : Int))] _ Tryz.func113 rfl Tryz.ntmps113 rfl ?_
  refine zz ?_
  refine MC.does true (does_box hs rfl rfl) rfl ?_; rintro _ w ⟨b5, rfl, hs⟩
  refine zz ?_
  refine MC.does true (does_alloc hs) rfl ?_; rintro _ w ⟨b6, rfl, hs⟩
  refine zz ?_
  refine MC.does true (does_alloc hs) rfl ?_; rintro _ w ⟨b7, rfl, hs⟩
  refine zz ?_
  refine MC.does true (does_alloc hs) rfl ?_; rintro _ w ⟨b8, rfl, hs⟩
  by_cases hbig : 16384 < size
  · refine zz ?_
    refine MC.does true (does_store1 hs rfl rfl rfl (by first | decide | (simp; done) | (simp; omega))) rfl ?_; intro _ w hs
    refine zz ?_
    refine MC.does true (does_store1 hs rfl rfl rfl (by first | decide | (simp; done) | (simp; omega))) rfl ?_; intro _ w hs
    refine zz ?_
    refine MC.does true (does_store1 hs rfl rfl rfl (by first | decide | (simp; done) | (simp; omega))) rfl ?_; intro _ w hs
    refine zz ?_
    refine MC.retMc0 fun a hf => ⟨_, run_results3 hf rfl hs rfl rfl rfl, .inr ⟨2, s, by decide, by unfold chainRead; rw [if_pos hbig]; exact ⟨rfl, rfl⟩, rfl, hs.tail.tail.tail.tail⟩⟩
  · refine zz ?_
    refine MC.does true (does_alloc hs) rfl ?_; rintro _ w ⟨b9, rfl, hs⟩
    refine zz ?_
    refine MC.does true (does_alloc hs) rfl ?_; rintro _ w ⟨b10, rfl, hs⟩
    refine zz ?_
    refine zc rfl (cpages_spec hs) ?_
    rintro _ w ⟨bsz, bp, bh, rfl, hs⟩
    refine zz ?_
    have hs := (hs.sl_nil 3 1).sl_nil 5 1
    have hs := hs.pickF 12 [6, 1, 5, 0, 11, 2, 3, 4, 9, 8, 7, 10] rfl rfl
    have hs := Bd_mk (l := []) (out := []) hs
    have hs := hs.pickF 5 [2, 3, 4, 1, 0] rfl rfl
    obtain ⟨C, hC⟩ : ∃ C : Ch, C = ⟨z, s, mk, size, head, bsz, bp, bh, b9, b10⟩ := ⟨_, rfl⟩
    refine MC.rangeFunc2 rfl (lb := [ptr bsz, ptr bp, ptr bh]) (C.base C.head0 [] [] (blk b6 [.slice none 0 0] 67 :: blk b7 [.slice none 0 0] 33 :: blk b8 [int 0] 34 :: blk b5 [int ((size : Nat) : Int)] 3 :: F))
      (C.JN (blk b6 [.slice none 0 0] 67 :: blk b7 [.slice none 0 0] 33 :: blk b8 [int 0] 34 :: blk b5 [int ((size : Nat) : Int)] 3 :: F)) Rx.ar
      (C.Jy (blk b6 [.slice none 0 0] 67 :: blk b7 [.slice none 0 0] 33 :: blk b8 [int 0] 34 :: blk b5 [int ((size : Nat) : Int)] 3 :: F))
      (C.Jn (blk b6 [.slice none 0 0] 67 :: blk b7 [.slice none 0 0] 33 :: blk b8 [int 0] 34 :: blk b5 [int ((size : Nat) : Int)] 3 :: F))
      [.ret] (fun _ => (Sl.ex fun e : {e : Int // e ≠ 0 ∧ C.go (.err e)} => star [blk b6 [.slice none 0 0] 67, blk b7 [.slice none 0 0] 33, blk b8 [int e.1] 34]) :: pgr z s mk :: F)
      rfl rfl rfl (by subst hC; exact hs) ?_ ?_ ?_ ?_
    · intro pre Jx
      have := pages1_spec (C := C) (R := blk b6 [.slice none 0 0] 67 :: blk b7 [.slice none 0 0] 33 :: blk b8 [int 0] 34 :: blk b5 [int ((size : Nat) : Int)] 3 :: F) (by subst hC; show size ≤ 16384; omega) (by subst hC; exact hh) pre Jx
      subst hC
      exact this
    · intro L D x rec w hrec hs
      have hs := hs.pickF 3 [2, 0, 1] rfl rfl
      obtain ⟨hy, hs⟩ := Sat.fact_iff.1 hs
      refine zz ?_
      refine MC.begin hrec hs fun w hs => ?_
      obtain ⟨er, hd, l, out, b, vb⟩ := x
      cases er with
      | some e =>
        obtain ⟨hb0, hv0, he, hgo⟩ := hy
        dsimp only [] at hb0 hv0
        subst hb0; subst hv0; subst hC
        have hs : Sat (lp L (busy rec) :: shelf D :: blk b6 [.slice none 0 0] 67 :: blk b7 [.slice none 0 0] 33 :: blk b8 [int 0] 34 :: pgr z s mk :: blk b5 [int ((size : Nat) : Int)] 3 :: F) w := ((hs.pickF 12 [2, 3, 4, 5, 7, 0, 1, 8, 9, 10, 6, 11] rfl rfl).tail.tail.tail.tail.tail)
        refine zz ?_
        refine MC.pure (f := true) (po_bin rfl rfl br_slice_nil) rfl ?_
        refine zz ?_
        refine MC.does true (does_store1 hs rfl rfl rfl (by first | decide | (simp; done) | (simp; omega))) rfl ?_; intro _ w hs
        refine zz ?_
        refine MC.does true (does_store1 hs rfl rfl rfl (by first | decide | (simp; done) | (simp; omega))) rfl ?_; intro _ w hs
        refine zz ?_
        refine MC.does true (does_store1 hs rfl rfl rfl (by first | decide | (simp; done) | (simp; omega))) rfl ?_; intro _ w hs
        refine zz ?_
        refine MC.stopRet (List.mem_singleton.2 rfl) ?_
        have e9 : (0 : Int) - (0 - e) = e := by omega
        rw [e9] at hs
        have hs := (hs.pickF 6 [2, 3, 4, 0, 1, 5] rfl rfl)
        have hs := (((Sat.restar (l := [_, _, _]) hs).pickF 5 [4, 0, 1, 2, 3] rfl rfl).tail)
        have hs : Sat ((Sl.ex fun e : {e : Int // e ≠ 0 ∧ Ch.go ⟨z, s, mk, size, head, bsz, bp, bh, b9, b10⟩ (.err e)} => star [blk b6 [.slice none 0 0] 67, blk b7 [.slice none 0 0] 33, blk b8 [int e.1] 34]) :: lp L (busy rec) :: shelf D :: pgr z s mk :: F) w :=
          Sat.ex_iff.2 ⟨⟨e, by omega, hgo⟩, hs⟩
        exact hs.pickF 3 [1, 2, 0] rfl rfl
      | none =>
        obtain ⟨hgm, hbl, ⟨hlen, hol⟩, hrest⟩ := hy
        dsimp only [] at hgm hbl hlen hol hrest
        have hol : out.length ≤ size := by subst hC; exact hol
        have hs := (hs.pickF 8 [7, 2, 3, 4, 5, 6, 0, 1] rfl rfl)
        subst hC
        have hs := Bd_open hs
        obtain ⟨q, n, c, q', n', c', rfl, rfl, hs⟩ := hs
        have hs : Sat (blk b9 [.slice q l.length c] 67 :: sl (.slice q l.length c) 3 1 l.length (bufV l) :: blk b10 [.slice q' out.length c'] 33 :: sl (.slice q' out.length c') 5 1 out.length (bytesV out) :: sl vb 5 1 b.length (bytesV b) ::
          blk bsz [int ((size : Nat) : Int)] 3 :: blk bp [ptr z.p] 23 :: blk bh [int ((hd : Nat) : Int)] 3 :: pgr z s mk :: lp L (busy rec) :: shelf D :: blk b6 [.slice none 0 0] 67 :: blk b7 [.slice none 0 0] 33 :: blk b8 [int 0] 34 :: blk b5 [int ((size : Nat) : Int)] 3 :: F) w := hs
        obtain ⟨_, qv, cv, rfl, hcv⟩ := hs.tail.tail.tail.tail.sl_len
        have hr0 := RdS.of_sl hs.tail.tail.tail.tail
        obtain ⟨lb, lo, rfl, hrl⟩ := hr0.at_ (by omega)
        refine zz ?_
        refine MC.pure (f := true) (po_bin rfl rfl br_slice_nil) rfl ?_
        refine zz ?_
        refine MC.does true (does_buildL hs rfl rfl rfl (all1 rfl) rfl) rfl ?_; rintro _ w ⟨bt, rfl, hs⟩
        refine zz ?_
        have hll : l.length ≤ 1000 := by
          have : pagesOf size ≤ 1000 := by unfold pagesOf; omega
          have h2 : l.length + 1 ≤ pagesOf size := hlen
          omega
        refine MC.does true (does_append hs rfl rfl (src_at rfl (all1 rfl)) (by omega) (by omega)) rfl ?_
        intro va w hs
        obtain ⟨_, q2, c2, rfl, hc2⟩ := hs.tail.tail.sl_len
        refine zz ?_
        refine MC.does true (does_store1 hs rfl rfl rfl (by first | decide | (simp; done) | (simp; omega))) rfl ?_; intro _ w hs
        have e3 : bufV l ++ [(Rx.ar ⟨none, hd, l, out, b, .slice (some ⟨lb, lo, none⟩) b.length cv⟩).1] = bufV (l ++ [hd]) := by
          show bufV l ++ [int ((hd : Nat) : Int)] = _
          simp [bufV]
        rw [e3] at hs
        have hb0 := Go.Sl.bytesV_get b 0 (by omega)
        have hb1 := Go.Sl.bytesV_get b 1 (by omega)
        have hd0 := byteAt_bd b 0
        have hd1 := byteAt_bd b 1
        refine zz ?_
        refine MC.draw hs [0, 1, 2, 3, 4, 5, 6, 7, 8, 9, 10] (by rfl) ?_; intro w hs
        refine zd ?_
        refine MC.laD true (la_load1_rd hrl hs (j := Int.toNat 0 * 1) rfl hb0) rfl ?_
        refine zd ?_
        refine MC.laD true (la_load1_rd hrl hs (j := Int.toNat 1 * 1) rfl hb1) rfl ?_
        refine zd ?_
        refine MC.pure (f := true) (po_bin rfl rfl (br_orS' 8 (byteAt b 0).toNat hd1.1 (by show byteAt b 1 < 256; omega) (by show byteAt b 0 * 256 = ((byteAt b 0).toNat : Int) * 256; omega) (by simp [IntKind.max, IntKind.signed, IntKind.bits]; omega))) rfl ?_
        refine zd ?_
        refine zz ?_
        have hpg := fun w => pages_spec (n := size) (w := w) (by omega)
        refine MC.draw hs [0, 1, 2, 3, 4, 5, 6, 7] (by rfl) ?_; intro w hs
        refine zd ?_
        refine MC.doesK true (does_call rfl (hpg _)) rfl rfl rfl ?_
        rintro _ w' ⟨rfl, rfl⟩
        refine zh ?_
        refine zd ?_
        refine MC.pure (f := true) (po_bin rfl rfl br_bool_ne) rfl ?_
        refine zd ?_
        refine MC.opsEnd ?_
        have en : byteAt b 0 * 256 + byteAt b 1 = (((b.getD 0 0).toNat * 256 + (b.getD 1 0).toNat : Nat) : Int) := by
          rw [List.getD_eq_getElem?_getD, List.getD_eq_getElem?_getD, Int.natCast_add, Int.natCast_mul]
          rfl
        refine MC.condB rfl (fun hb => ?_) (fun hb => ?_)
        · refine zz ?_
          refine MC.does true (does_store1 hs rfl rfl rfl (by first | decide | (simp; done) | (simp; omega))) rfl ?_; intro _ w hs
          refine zz ?_
          refine MC.does true (does_store1 hs rfl rfl rfl (by first | decide | (simp; done) | (simp; omega))) rfl ?_; intro _ w hs
          refine zz ?_
          refine MC.does true (does_store1 hs rfl rfl rfl (by first | decide | (simp; done) | (simp; omega))) rfl ?_; intro _ w hs
          refine zz ?_
          refine MC.stopRet (List.mem_singleton.2 rfl) ?_
          have hgo : Ch.go ⟨z, s, mk, size, head, bsz, bp, bh, b9, b10⟩ (.err 200) := by
            refine hrest _ ?_
            show chainGo z.E size (pagesOf size - l.length) hd l out s _ s
            rw [show pagesOf size - l.length = (pagesOf size - (l.length + 1)) + 1 by have : l.length + 1 ≤ pagesOf size := hlen; omega]
            unfold chainGo
            refine .inr ⟨b, s, hgm, ?_⟩
            dsimp only []
            rw [if_pos (fun h => by
              have hb := of_decide_eq_true hb
              rw [en] at hb
              refine hb ?_
              simp only [decide_eq_decide] at h ⊢
              omega)]
            exact ⟨rfl, rfl⟩
          have hs := (hs.pickF 16 [0, 1, 2, 3, 4, 5, 6, 7, 8, 15, 12, 13, 14, 10, 11, 9] rfl rfl).tail.tail.tail.tail.tail.tail.tail.tail.tail.tail
          have hs : Sat ((Sl.ex fun e : {e : Int // e ≠ 0 ∧ Ch.go ⟨z, s, mk, size, head, bsz, bp, bh, b9, b10⟩ (.err e)} => star [blk b6 [.slice none 0 0] 67, blk b7 [.slice none 0 0] 33, blk b8 [int e.1] 34]) :: lp L (busy rec) :: shelf D :: pgr z s mk :: F) w :=
            Sat.ex_iff.2 ⟨⟨200, by decide, hgo⟩, Sat.restar (l := [_, _, _]) hs⟩
          exact hs.pickF 3 [1, 2, 0] rfl rfl
        · refine zz ?_
          have em : (2 : Int) + min 254 ((size : Int) - (out.length : Int)) = ((2 + min 254 (size - out.length) : Nat) : Int) := by omega
          have em2 : min 254 ((size : Int) - (out.length : Int)) = ((min 254 (size - out.length) : Nat) : Int) := by omega
          rw [em, em2]
          have hcut : 2 + min 254 (size - out.length) ≤ b.length := by omega
          refine MC.pure (f := true) (po_slice_lo (a := 2 + min 254 (size - out.length)) rfl rfl hcut) rfl ?_
          refine zz ?_
          obtain ⟨a, ha⟩ : ∃ a, 2 + min 254 (size - out.length) = a := ⟨_, rfl⟩
          rw [ha] at hcut
          rw [ha]
          have hsub := hr0.subLo (a := a) hcut
          refine MC.loop (σ := Nat) (fun i => [(5, true, ptr b5), (6, true, ptr b6), (7, true, ptr b7), (8, true, ptr b8), (9, true, ptr b9), (10, true, ptr b10), (12, true, .slice (some ⟨lb, lo, none⟩) b.length cv), (14, true, int ((min 254 (size - out.length) : Nat) : Int)), (63, true, .slice (cutAt (some ⟨lb, lo, none⟩) a cv 1) (b.length - a) (cv - a)), (64, true, int ((b.length - a : Nat) : Int)), (65, true, int ((i : Nat) : Int))])
            (fun i w1 => i ≤ b.length - a ∧ (∀ j, j < i → (b.drop a).getD j 0 = 0) ∧ w1 = w') (fun i => b.length - a - i) 0 zi ⟨Nat.zero_le _, fun j h => by omega, rfl⟩ ?_
          rintro i w1 ⟨hi, hz, rfl⟩
          rcases Nat.lt_or_ge i (b.length - a) with hlt | hge
          · obtain ⟨lb2, lo2, hq, hr2⟩ := hsub.at_ (by omega)
            rw [hq]
            have hbi := Go.Sl.bytesV_get (b.drop a) i (by rw [List.length_drop]; omega)
            have hbd := byteAt_bd (b.drop a) i
            refine zz ?_
            refine MC.la true (la_load1_rd hr2 hs (j := ((i : Nat) : Int).toNat * 1) rfl (by rw [Int.toNat_natCast, Nat.mul_one]; exact hbi)) rfl ?_
            by_cases hb0 : byteAt (b.drop a) i = 0
            · rw [hb0]
              refine zz ?_
              exact MC.again (i + 1) zi ⟨hlt, fun j hj => by
                rcases Nat.lt_or_ge j i with h' | h'
                · exact hz j h'
                · obtain rfl : j = i := by omega
                  unfold byteAt at hb0
                  rw [List.getD_eq_getElem?_getD]
                  exact UInt8.toNat_inj.1 (by simpa using hb0), rfl⟩ (by omega)
            · refine zz ?_
              refine MC.does true (does_store1 hs rfl rfl rfl (by first | decide | (simp; done) | (simp; omega))) rfl ?_; intro _ w hs
              refine zz ?_
              refine MC.does true (does_store1 hs rfl rfl rfl (by first | decide | (simp; done) | (simp; omega))) rfl ?_; intro _ w hs
              refine zz ?_
              refine MC.does true (does_store1 hs rfl rfl rfl (by first | decide | (simp; done) | (simp; omega))) rfl ?_; intro _ w hs
              refine zz ?_
              refine MC.stopRet (List.mem_singleton.2 rfl) ?_
              have hgo : Ch.go ⟨z, s, mk, size, head, bsz, bp, bh, b9, b10⟩ (.err 200) := by
                refine hrest _ ?_
                show chainGo z.E size (pagesOf size - l.length) hd l out s _ s
                rw [show pagesOf size - l.length = (pagesOf size - (l.length + 1)) + 1 by have : l.length + 1 ≤ pagesOf size := hlen; omega]
                unfold chainGo
                refine .inr ⟨b, s, hgm, ?_⟩
                dsimp only []
                by_cases h1 : decide ((b.getD 0 0).toNat * 256 + (b.getD 1 0).toNat = 65535) ≠ decide (l.length + 1 = pagesOf size)
                · rw [if_pos h1]; exact ⟨rfl, rfl⟩
                · rw [if_neg h1, ha, if_pos]
                  · exact ⟨rfl, rfl⟩
                  · rw [List.any_eq_true]
                    refine ⟨(b.drop a)[i]'(by rw [List.length_drop]; omega), List.getElem_mem _, ?_⟩
                    have : byteAt (b.drop a) i = (((b.drop a)[i]'(by rw [List.length_drop]; omega)).toNat : Int) := by
                      unfold byteAt; rw [List.getElem?_eq_getElem (by rw [List.length_drop]; omega)]; rfl
                    rw [this] at hb0
                    have h0 : ¬ (b.drop a)[i]'(by rw [List.length_drop]; omega) = 0 := fun h => hb0 (by rw [h]; rfl)
                    simpa using h0
              have hs := (hs.pickF 16 [0, 1, 2, 3, 4, 5, 6, 7, 8, 15, 12, 13, 14, 10, 11, 9] rfl rfl).tail.tail.tail.tail.tail.tail.tail.tail.tail.tail
              have hs : Sat ((Sl.ex fun e : {e : Int // e ≠ 0 ∧ Ch.go ⟨z, s, mk, size, head, bsz, bp, bh, b9, b10⟩ (.err e)} => star [blk b6 [.slice none 0 0] 67, blk b7 [.slice none 0 0] 33, blk b8 [int e.1] 34]) :: lp L (busy rec) :: shelf D :: pgr z s mk :: F) w :=
                Sat.ex_iff.2 ⟨⟨200, by decide, hgo⟩, Sat.restar (l := [_, _, _]) hs⟩
              exact hs.pickF 3 [1, 2, 0] rfl rfl
          · obtain rfl : i = b.length - a := by omega
            refine zz ?_
            have hr1 := hr0.sub (a := 2) (b := a) (by omega) hcut (cv - 2) (by omega)
            refine MC.draw hs [0, 1, 2, 3, 4, 5, 6] (by rfl) ?_; intro w hs
            refine zd ?_
            have e75 : (2 : Int) + ((min 254 (size - out.length) : Nat) : Int) = ((a : Nat) : Int) := by omega
            rw [e75]
            refine MC.pure (f := true) (po_slice (a := 2) (b := a) rfl rfl rfl (by omega) (by omega)) rfl ?_
            refine MC.doesK true (does_append hs rfl rfl (RdS.src hr1 (bytesV_one _)) (by omega) (by omega)) rfl rfl rfl ?_
            intro vo w hs
            refine zh ?_
            obtain ⟨_, qo, co, rfl, hco⟩ := (hs.pickF 6 [4, 0, 1, 2, 3, 5] rfl rfl).sl_len
            refine zd ?_
            refine MC.doesD true (does_store1 hs rfl rfl rfl (by first | decide | (simp; done) | (simp; omega))) rfl rfl rfl rfl ?_; intro _ w hs
            refine zd ?_
            refine zz ?_
            have ea2 : a - 2 = min 254 (size - out.length) := by omega
            have eo : out.length + (a - 2) = (out ++ (b.drop 2).take (a - 2)).length := by rw [List.length_append, List.length_take, List.length_drop]; omega
            have eb : bytesV out ++ bytesV ((b.take a).drop 2) = bytesV (out ++ (b.drop 2).take (a - 2)) := by rw [bytesV_append, List.drop_take]
            rw [eb, eo, ea2] at hs
            have en2 : l.length + 1 = (l ++ [hd]).length := by simp
            rw [en2] at hs
            have hs := hs.pickF 12 [1, 2, 3, 4, 10, 11, 5, 6, 7, 8, 9] rfl rfl
            refine MC.more hrec ?_
            have hnok : Ch.nok ⟨z, s, mk, size, head, bsz, bp, bh, b9, b10⟩ ⟨none, hd, l, out, b, .slice (some ⟨lb, lo, none⟩) b.length cv⟩ := by
              refine ⟨rfl, ⟨hgm, hbl, ⟨hlen, hol⟩, hrest⟩, ?_, ?_⟩
              · have hb := of_decide_eq_false hb
                rw [en] at hb
                have hb := Classical.not_not.1 hb
                simp only [decide_eq_decide] at hb ⊢
                show (b.getD 0 0).toNat * 256 + (b.getD 1 0).toNat = 65535 ↔ l.length + 1 = pagesOf size
                omega
              · show (b.drop (2 + min 254 (size - out.length))).any _ = _
                rw [ha]
                refine List.any_eq_false.2 fun x hx => ?_
                obtain ⟨j, hj, rfl⟩ := List.mem_iff_getElem.1 hx
                have := hz j (by rw [List.length_drop] at hj; exact hj)
                rw [List.getD_eq_getElem?_getD, List.getElem?_eq_getElem hj, Option.getD_some] at this
                rw [this]; decide
            have hs := (Bd_mk hs).pickF 8 [1, 2, 3, 4, 5, 6, 7, 0] rfl rfl
            exact (Sat.fact_iff.2 ⟨hnok, hs⟩).pickF 3 [1, 2, 0] rfl rfl
    · intro D w hs
      have hs := hs.swap
      obtain ⟨⟨⟨l, out⟩, hgo⟩, hs⟩ := Sat.ex_iff.1 hs
      have hs := Bd_open (Sat.unstar (l := [_, _]) hs)
      obtain ⟨q, n, c, q', n', c', rfl, rfl, hs⟩ := hs
      subst hC
      have hs : Sat (blk b9 [.slice q l.length c] 67 :: sl (.slice q l.length c) 3 1 l.length (bufV l) :: blk b10 [.slice q' out.length c'] 33 :: sl (.slice q' out.length c') 5 1 out.length (bytesV out) :: pgr z s mk :: shelf D :: blk b6 [.slice none 0 0] 67 :: blk b7 [.slice none 0 0] 33 :: blk b8 [int 0] 34 :: blk b5 [int ((size : Nat) : Int)] 3 :: F) w := hs.pickF 6 [0, 1, 2, 3, 4, 5] rfl rfl
      refine zz ?_
      refine MC.draw hs [0, 1, 2, 3, 4] (by rfl) ?_; intro w hs
      refine zd ?_
      refine MC.doesK true (does_store1 hs rfl rfl rfl (by first | decide | (simp; done) | (simp; omega))) rfl rfl rfl ?_; intro _ w hs; refine zh ?_
      refine zd ?_
      refine MC.doesK true (does_store1 hs rfl rfl rfl (by first | decide | (simp; done) | (simp; omega))) rfl rfl rfl ?_; intro _ w hs; refine zh ?_
      refine zd ?_
      refine MC.doesK true (does_store1 hs rfl rfl rfl (by first | decide | (simp; done) | (simp; omega))) rfl rfl rfl ?_; intro _ w hs; refine zh ?_
      refine zd ?_
      refine zz ?_
      have hs := hs.pickF 9 [5, 1, 3, 4, 6, 7, 8, 0, 2] rfl rfl
      refine MC.retMc hs fun w' hs' a hf => ⟨_, run_results3 hf rfl hs' rfl rfl rfl, .inl ⟨(l, out), s, ?_, .slice q l.length c, .slice q' out.length c', rfl, ?_⟩⟩
      · unfold chainRead
        rw [if_neg hbig]
        exact hgo
      · exact (hs'.pickF 9 [3, 4, 5, 6, 7, 8, 0, 1, 2] rfl rfl).tail.tail.tail.tail.tail.tail
    · intro c D w hc hs
      rw [List.mem_singleton.1 hc]
      refine MC.retMc hs fun w' hs' a hf => ?_
      obtain ⟨⟨e, he, hgo⟩, hs'⟩ := Sat.ex_iff.1 hs'
      have hs' := Sat.unstar (l := [_, _, _]) hs'
      dsimp only [List.cons_append, List.nil_append] at hs'
      refine ⟨_, run_results3 hf rfl hs' rfl rfl rfl, .inr ⟨e, s, he, ?_, rfl, hs'.tail.tail.tail⟩⟩
      unfold chainRead
      rw [if_neg hbig]
      subst hC
      exact hgo
end
end Go.Proofs.YtkccjgllanpebaaGreatDoor

namespace Go.Proofs.YtkccjgllanpebaaGreatDoor
open Go Go.Sl Go.Tr Go.Kv Go.Ms
attribute [local irreducible] LooksAt
theorem take_snoc {α : Type} {l : List α} {i : Nat} (h : i < l.length) : l.take (i + 1) = l.take i ++ [l[i]] := List.take_succ_eq_append_getElem h
theorem swapr_spec {F : List Assn} {P U M W Q : List E} {bd n c : Nat} {sp : List Value} {a b k : Int} {w : World} (hs : Sat (blk bd (cellsD (P ++ (U ++ (M ++ (W ++ Q)))) ++ sp) 32 :: F) w) (hD : DL F (P ++ (U ++ (M ++ (W ++ Q)))))
    (hl : W.length = U.length) (ha : a = ((P.length : Nat) : Int)) (hb : b = ((P.length + U.length + M.length : Nat) : Int)) (hk : k = ((U.length : Nat) : Int)) (hn : P.length + U.length + M.length + W.length + Q.length = n) (hN : n ≤ 100000) :
    Ret Tryz.prog 159 [.slice (some ⟨bd, 0, none⟩) n c, int a, int b, int k, .func (.func 34) #[] #[]] w fun _ w' => Sat (blk bd (cellsD (P ++ (W ++ (M ++ (U ++ Q)))) ++ sp) 32 :: F) w' := by
  subst ha hb hk
  refine Ret.enter [(true, .slice (some ⟨bd, 0, none⟩) n c), (true, int ((P.length : Nat) : Int)), (true, int ((P.length + U.length + M.length : Nat) : Int)), (true, int ((U.length : Nat) : Int)), (true, .func (.func 34) #[] #[])] _ Tryz.func159 rfl Tryz.ntmps159 rfl ?_
  refine zz ?_
  · (try dsimp only [List.drop_succ_cons, List.drop_zero, List.take_succ_cons, List.take_zero, List.cons_append, List.nil_append])
    refine MC.loop (σ := Nat) (fun i => [(0, true, .slice (some ⟨bd, 0, none⟩) n c), (1, true, int ((P.length : Nat) : Int)), (2, true, int ((P.length + U.length + M.length : Nat) : Int)), (3, true, int ((U.length : Nat) : Int)), (10, true, int ((i : Nat) : Int))])
      (fun i w => i ≤ U.length ∧ DL F (P ++ (W.take i ++ (U.drop i ++ (M ++ (U.take i ++ (W.drop i ++ Q)))))) ∧ Sat (blk bd (cellsD (P ++ (W.take i ++ (U.drop i ++ (M ++ (U.take i ++ (W.drop i ++ Q)))))) ++ sp) 32 :: F) w) (fun i => U.length - i) 0 zi ⟨Nat.zero_le _, by simpa using hD, by simpa using hs⟩ ?_
    clear hs hD
    rintro i w ⟨hi, hD, hs⟩
    dsimp only [] at hi ⊢
    rcases Nat.lt_or_ge i U.length with hlt | hge
    · have hlw : i < W.length := by omega
      obtain ⟨u, hu⟩ : ∃ u, U[i] = u := ⟨_, rfl⟩
      obtain ⟨x, hx⟩ : ∃ x, W[i] = x := ⟨_, rfl⟩
      have e1 : P ++ (W.take i ++ (U.drop i ++ (M ++ (U.take i ++ (W.drop i ++ Q))))) = (P ++ W.take i) ++ u :: ((U.drop (i + 1) ++ (M ++ U.take i)) ++ x :: (W.drop (i + 1) ++ Q)) := by
        rw [List.drop_eq_getElem_cons hlt, List.drop_eq_getElem_cons hlw, hu, hx]; simp only [List.append_assoc, List.cons_append]
      have e2 : P ++ (W.take (i + 1) ++ (U.drop (i + 1) ++ (M ++ (U.take (i + 1) ++ (W.drop (i + 1) ++ Q))))) = (P ++ W.take i) ++ x :: ((U.drop (i + 1) ++ (M ++ U.take i)) ++ u :: (W.drop (i + 1) ++ Q)) := by
        rw [take_snoc hlt, take_snoc hlw, hu, hx]; simp only [List.append_assoc, List.cons_append, List.nil_append]
      have lA : (P ++ W.take i).length = P.length + i := by rw [List.length_append, List.length_take]; omega
      have lB : (U.drop (i + 1) ++ (M ++ U.take i)).length = U.length - 1 + M.length := by rw [List.length_append, List.length_append, List.length_take, List.length_drop]; omega
      have lC : (W.drop (i + 1) ++ Q).length = W.length - (i + 1) + Q.length := by rw [List.length_append, List.length_drop]
      generalize P ++ W.take i = A at e1 e2 lA
      generalize U.drop (i + 1) ++ (M ++ U.take i) = B at e1 e2 lB
      generalize hC : W.drop (i + 1) ++ Q = C at e1 e2 lC
      rw [e1] at hs hD
      have vu := hD.at
      have vx := hD.two
      refine zz ?_
      refine MC.draw hs [0, 1, 2, 3, 4, 5, 6, 7, 8, 9, 10, 11, 12, 13, 14, 15, 16, 17, 18, 19, 20, 21, 22, 23] (by rfl) ?_; intro w hs
      refine zd ?_
      refine MC.laD true (la_loadV hs rfl (vs := x.2) (D_at2 hD (by rw [lA, lB]; omega)) vx.len rfl) rfl ?_
      refine zd ?_
      refine MC.laD true (la_loadV hs rfl (vs := u.2) (D_at hD (by rw [lA]; omega)) vu.len rfl) rfl ?_
      refine zd ?_
      refine MC.doesD true (does_store (vs := x.2) hs rfl rfl vx.cells vx.len vx.ones (D_in hD (by rw [lA]; omega))) rfl rfl rfl rfl ?_; intro _ w hs; rw [D_set hD vx (by rw [lA]; omega)] at hs
      refine zd ?_
      refine MC.doesD true (does_store (vs := u.2) hs rfl rfl vu.cells vu.len vu.ones (D_in2 (hD.set vx) (by rw [lA, lB]; omega))) rfl rfl rfl rfl ?_; intro _ w hs; rw [D_set2 (hD.set vx) vu (by rw [lA, lB]; omega)] at hs
      refine zz ?_
      rw [← e2, ← hC] at hs
      have hN := hD.swap
      rw [← e2, ← hC] at hN
      exact MC.again (i + 1) zi ⟨hlt, hN, hs⟩ (by show U.length - (i + 1) < U.length - i; omega)
    · obtain rfl : i = U.length := by omega
      refine zz ?_
      rw [List.take_length, List.take_of_length_le (by omega), List.drop_length, List.drop_of_length_le (by omega), List.nil_append, List.nil_append] at hs
      exact MC.end_ rfl hs
end Go.Proofs.YtkccjgllanpebaaGreatDoor

namespace Go.Proofs.YtkccjgllanpebaaGreatDoor
open Go Go.Sl Go.Tr
attribute [local irreducible] LooksAt
section
variable {F : List Assn} {z : Pw} {s : St} {mk : Option (Nat × St)} {w : World}
def OutV (m : M Bs) (z : Pw) (s : St) (mk : Option (Nat × St)) (F : List Assn) : Value → World → Prop := Out m s (fun b s' v w => ∃ vb, v = .tuple #[vb, int 0] ∧ Sat (sl vb 5 1 b.length (bytesV b) :: pgr z s' mk :: F) w) (fun e s' v w => ∃ vb, v = .tuple #[vb, int e] ∧ Sat (pgr z s' mk :: F) w)
theorem cget_spec' {head size : Nat} (hs : Sat (pgr z s mk :: F) w) (hh : head ≤ 100000) (hsz : size ≤ 4294967296) :
    Ret Tryz.prog 69 [ptr z.p, int ((head : Nat) : Int), int ((size : Nat) : Int)] w (OutV (chainGet z.E head size) z s mk F) := by
  refine Ret.enter [(true, ptr z.p), (true, int ((head : Nat) : Int)), (true, int ((size : Nat) : Int))] _ Tryz.func69 rfl Tryz.ntmps69 rfl ?_
  refine zz ?_
  refine zc rfl (cread_spec hs hh hsz) ?_
  rintro _ w (⟨x, s', hm, vl, vo, rfl, hs⟩ | ⟨e, s', he, hm, rfl, hs⟩)
  · refine zz ?_
    refine MC.ret rfl ?_
    exact .inl ⟨x.2, s', .inr ⟨x, s', hm, rfl, rfl⟩, vo, rfl, hs.tail⟩
  · refine zz ?_
    refine MC.ret rfl ?_
    exact .inr ⟨e, s', he, .inl ⟨e, hm, rfl⟩, _, rfl, hs⟩
def dropsTo (E : En) (l : List Nat) (s : St) (i : Nat) (s' : St) : Prop := ∀ r s2, dropsM E (l.drop i) s' r s2 → dropsM E l s r s2
theorem read_small {E : En} : ∀ {m size head : Nat} {l : List Nat} {out : Bs} {s s' : St} {x : List Nat × Bs}, chainGo E size m head l out s (.ok x) s' → (∀ k ∈ l, k ≤ 100000) → head ≤ 100000 → (∀ k ∈ x.1, k ≤ 100000) ∧ x.1.length ≤ l.length + m
  | 0, size, head, l, out, s, s', x, h, hl, hh => by
    obtain ⟨h1, _⟩ := h
    cases h1
    exact ⟨hl, Nat.le_refl _⟩
  | m + 1, size, head, l, out, s, s', x, h, hl, hh => by
    unfold chainGo at h
    rcases h with ⟨e, _, h⟩ | ⟨b, s1, _, h⟩
    · cases h
    · dsimp only [] at h
      split at h
      · cases h.1
      · split at h
        · cases h.1
        · have h1 := (b.getD 0 0).toNat_lt
          have h2 := (b.getD 1 0).toNat_lt
          have := read_small h (fun k hk => by
            rcases List.mem_append.1 hk with hk | hk
            · exact hl k hk
            · rw [List.mem_singleton.1 hk]; exact hh) (by omega)
          exact ⟨this.1, by have := this.2; rw [List.length_append, List.length_singleton] at this; omega⟩
theorem cdrop_spec {head size : Nat} (hs : Sat (pgr z s mk :: F) w) (hh : head ≤ 100000) (hsz : size ≤ 4294967296) :
    Ret Tryz.prog 103 [ptr z.p, int ((head : Nat) : Int), int ((size : Nat) : Int)] w (OutU (chainDrop z.E head size) z s mk F) := by
  refine Ret.enter [(true, ptr z.p), (true, int ((head : Nat) : Int)), (true, int ((size : Nat) : Int))] _ Tryz.func103 rfl Tryz.ntmps103 rfl ?_
  refine zz ?_
  refine zc rfl (cread_spec hs hh hsz) ?_
  rintro _ w (⟨x, s1, hm, vl, vo, rfl, hs⟩ | ⟨e, s', he, hm, rfl, hs⟩)
  · obtain ⟨_, q, c, rfl, hc⟩ := hs.sl_len
    have hb := hm
    unfold chainRead at hb
    split at hb
    · cases hb.1
    next hbig =>
    obtain ⟨hk, hl⟩ := read_small hb (fun k hk => by cases hk) hh
    have hl : x.1.length ≤ 1000 := by
      have h2 : pagesOf size ≤ 1000 := by unfold pagesOf; omega
      simp at hl; omega
    obtain ⟨l, hxl⟩ : ∃ l, x.1 = l := ⟨_, rfl⟩
    rw [hxl] at hs hk hl hc
    rw [hxl]
    have hs := hs.pickF 3 [0, 2] rfl rfl
    refine zz ?_
    refine MC.loop (σ := Nat × St) (fun i => [(0, true, ptr z.p), (24, true, .slice q l.length c), (25, true, int ((l.length : Nat) : Int)), (26, true, int ((i.1 : Nat) : Int))])
      (fun i w => i.1 ≤ l.length ∧ dropsTo z.E l s1 i.1 i.2 ∧ Sat (sl (.slice q l.length c) 3 1 l.length (bufV l) :: pgr z i.2 mk :: F) w) (fun i => l.length - i.1) (0, s1) zi ⟨Nat.zero_le _, fun r s2 h => h, hs⟩ ?_
    clear hs
    rintro ⟨i, s2⟩ w ⟨hi, hd, hs⟩
    dsimp only [] at hi hd hs ⊢
    rcases Nat.lt_or_ge i l.length with hlt | hge
    · have hr0 := RdS.of_sl hs
      obtain ⟨lb, lo, rfl, hrl⟩ := hr0.at_ (by omega)
      have hyat : (bufV l)[((i : Nat) : Int).toNat * 1]? = some (int ((l[i] : Nat) : Int)) := by
        rw [Int.toNat_natCast, Nat.mul_one]; simp [bufV, hlt]
      have hdr : l.drop i = l[i] :: l.drop (i + 1) := List.drop_eq_getElem_cons hlt
      refine zz ?_
      refine MC.la true (la_load1_rd hrl hs (j := ((i : Nat) : Int).toNat * 1) rfl hyat) rfl ?_
      have hs := hs.swap
      refine zz ?_
      refine zc rfl (drop_spec hs (hk _ (List.getElem_mem hlt))) ?_
      rintro _ w (⟨_, s3, hp, rfl, hs⟩ | ⟨e, s3, he, hp, rfl, hs⟩)
      · refine zz ?_
        exact MC.again (i + 1, s3) zi ⟨hlt, fun r s4 h => hd _ _ (by rw [hdr]; exact .inr ⟨(), s3, hp, h⟩), hs.swap⟩ (by show l.length - (i + 1) < l.length - i; omega)
      · refine zz ?_
        refine MC.ret rfl ?_
        refine .inr ⟨e, s3, he, .inr ⟨x, s1, hm, ?_⟩, rfl, hs.swap.tail⟩
        show dropsM z.E x.1 s1 _ s3
        rw [hxl]
        exact hd _ _ (by rw [hdr]; exact .inl ⟨e, hp, rfl⟩)
    · obtain rfl : i = l.length := by omega
      refine zz ?_
      refine MC.ret rfl ?_
      refine .inl ⟨(), s2, .inr ⟨x, s1, hm, ?_⟩, rfl, hs.tail⟩
      show dropsM z.E x.1 s1 _ s2
      rw [hxl]
      exact hd _ _ (by rw [List.drop_length]; exact ⟨rfl, rfl⟩)
  · refine zz ?_
    refine MC.ret rfl ?_
    exact .inr ⟨e, s', he, .inl ⟨e, hm, rfl⟩, rfl, hs⟩
end
end Go.Proofs.YtkccjgllanpebaaGreatDoor

namespace Go.Proofs.YtkccjgllanpebaaGreatDoor
open Go Go.Sl Go.Tr Go.Kv Go.Ms
attribute [local irreducible] LooksAt
theorem DL.swapr {F : List Assn} {P U M W Q : List E} (h : DL F (P ++ (U ++ (M ++ (W ++ Q))))) : DL F (P ++ (W ++ (M ++ (U ++ Q)))) := fun x hx => by
  refine h x ?_
  simp only [List.mem_append] at hx ⊢
  rcases hx with h | h | h | h | h <;> simp [h]
set_option maxHeartbeats 4000000 in
theorem rotate_spec {F : List Assn} {P U W Q : List E} {bd n c : Nat} {sp : List Value} {a m b : Int} {w : World} (hs : Sat (blk bd (cellsD (P ++ (U ++ (W ++ Q))) ++ sp) 32 :: F) w) (hD : DL F (P ++ (U ++ (W ++ Q))))
    (hu : 0 < U.length) (hw : 0 < W.length) (ha : a = ((P.length : Nat) : Int)) (hm : m = ((P.length + U.length : Nat) : Int)) (hb : b = ((P.length + U.length + W.length : Nat) : Int)) (hn : P.length + U.length + W.length + Q.length = n) (hN : n ≤ 100000) :
    Ret Tryz.prog 140 [.slice (some ⟨bd, 0, none⟩) n c, int a, int m, int b, .func (.func 34) #[] #[]] w fun _ w' => Sat (blk bd (cellsD (P ++ (W ++ (U ++ Q))) ++ sp) 32 :: F) w' := by
  subst ha
  obtain ⟨mm, hmm⟩ : ∃ mm, P.length + U.length = mm := ⟨_, rfl⟩
  obtain ⟨bb, hbb⟩ : ∃ bb, P.length + U.length + W.length = bb := ⟨_, rfl⟩
  rw [hmm] at hm
  rw [hbb] at hb
  subst hm hb
  refine Ret.enter [(true, .slice (some ⟨bd, 0, none⟩) n c), (true, int ((P.length : Nat) : Int)), (true, int ((mm : Nat) : Int)), (true, int ((bb : Nat) : Int)), (true, .func (.func 34) #[] #[])] _ Tryz.func140 rfl Tryz.ntmps140 rfl ?_
  refine zz ?_
  obtain ⟨T, hT⟩ : ∃ T, P ++ (W ++ (U ++ Q)) = T := ⟨_, rfl⟩
  rw [hT]
  rw [show ((mm : Nat) : Int) - ((P.length : Nat) : Int) = ((U.length : Nat) : Int) by omega, show ((bb : Nat) : Int) - ((mm : Nat) : Int) = ((W.length : Nat) : Int) by omega]
  refine MC.cutAtS (σ := List E × List E × List E × List E) 2 (fun s => [(0, true, .slice (some ⟨bd, 0, none⟩) n c), (2, true, int ((mm : Nat) : Int)), (4, true, .func (.func 34) #[] #[]), (10, true, int ((s.2.1.length : Nat) : Int))])
    (fun s w => s.2.1.length = s.2.2.1.length ∧ s.1.length + s.2.1.length = mm ∧ s.1.length + s.2.1.length + s.2.2.1.length + s.2.2.2.length = n ∧ s.1 ++ (s.2.2.1 ++ (s.2.1 ++ s.2.2.2)) = T ∧ DL F (s.1 ++ (s.2.1 ++ (s.2.2.1 ++ s.2.2.2))) ∧ Sat (blk bd (cellsD (s.1 ++ (s.2.1 ++ (s.2.2.1 ++ s.2.2.2))) ++ sp) 32 :: F) w) rfl ?_ ?_
  rotate_left
  · (try dsimp only [List.drop_succ_cons, List.drop_zero, List.take_succ_cons, List.take_zero, List.cons_append, List.nil_append])
    refine MC.loop (σ := List E × List E × List E × List E) (fun s => [(0, true, .slice (some ⟨bd, 0, none⟩) n c), (2, true, int ((mm : Nat) : Int)), (4, true, .func (.func 34) #[] #[]), (10, true, int ((s.2.1.length : Nat) : Int)), (11, true, int ((s.2.2.1.length : Nat) : Int))])
      (fun s w => 0 < s.2.1.length ∧ 0 < s.2.2.1.length ∧ s.1.length + s.2.1.length = mm ∧ s.1.length + s.2.1.length + s.2.2.1.length + s.2.2.2.length = n ∧ s.1 ++ (s.2.2.1 ++ (s.2.1 ++ s.2.2.2)) = T ∧ DL F (s.1 ++ (s.2.1 ++ (s.2.2.1 ++ s.2.2.2))) ∧ Sat (blk bd (cellsD (s.1 ++ (s.2.1 ++ (s.2.2.1 ++ s.2.2.2))) ++ sp) 32 :: F) w)
      (fun s => s.2.1.length + s.2.2.1.length) (P, U, W, Q) zi ⟨hu, hw, hmm, hn, hT, hD, hs⟩ ?_
    clear hs hD hu hw hmm hn hT hbb
    rintro ⟨P, U, W, Q⟩ w ⟨hu, hw, hmm, hn, hT, hD, hs⟩
    dsimp only [] at hu hw hmm hn hT hD hs ⊢
    rcases Nat.lt_trichotomy U.length W.length with h | h | h
    · obtain ⟨W1, W2, rfl, h2⟩ : ∃ W1 W2, W = W1 ++ W2 ∧ W2.length = U.length := ⟨W.take (W.length - U.length), W.drop (W.length - U.length), (List.take_append_drop _ _).symm, by rw [List.length_drop]; omega⟩
      rw [List.length_append] at h hw hn ⊢
      refine zz ?_
      rw [List.append_assoc] at hs hD hT
      refine zc rfl (swapr_spec hs hD h2 (by omega) (by omega) rfl (by omega) hN) ?_
      intro _ w hs
      have hD := hD.swapr
      refine zz ?_
      rw [show ((W1.length + W2.length : Nat) : Int) - ((U.length : Nat) : Int) = ((W1.length : Nat) : Int) by omega]
      rw [← h2]
      exact MC.again (P, W2, W1, U ++ Q) zi ⟨by show 0 < W2.length; omega, by show 0 < W1.length; omega, by show P.length + W2.length = mm; omega, by show P.length + W2.length + W1.length + (U ++ Q).length = n; rw [List.length_append]; omega, hT, hD, hs⟩ (by show W2.length + W1.length < W2.length + (W1.length + W2.length); omega)
    · refine zz ?_
      exact MC.meetS (P, U, W, Q) zi ⟨h, hmm, hn, hT, hD, hs⟩
    · obtain ⟨U1, U2, rfl, h2⟩ : ∃ U1 U2, U = U1 ++ U2 ∧ U1.length = W.length := ⟨U.take W.length, U.drop W.length, (List.take_append_drop _ _).symm, by rw [List.length_take]; omega⟩
      rw [List.length_append] at h hu hmm hn ⊢
      refine zz ?_
      rw [List.append_assoc] at hs hD hT
      refine zc rfl (swapr_spec hs hD h2.symm (by omega) (by omega) (by omega) (by omega) hN) ?_
      intro _ w hs
      have hD := hD.swapr
      refine zz ?_
      rw [show ((U1.length + U2.length : Nat) : Int) - ((W.length : Nat) : Int) = ((U2.length : Nat) : Int) by omega]
      rw [← h2]
      refine MC.again (P ++ W, U2, U1, Q) zi ⟨by show 0 < U2.length; omega, by show 0 < U1.length; omega, by show (P ++ W).length + U2.length = mm; rw [List.length_append]; omega, by show (P ++ W).length + U2.length + U1.length + Q.length = n; rw [List.length_append]; omega, ?_, ?_, ?_⟩ (by show U2.length + U1.length < U1.length + U2.length + U1.length; omega)
      · show P ++ W ++ _ = T; rw [List.append_assoc]; exact hT
      · show DL F (P ++ W ++ _); rw [List.append_assoc]; exact hD
      · show Sat (blk bd (cellsD (P ++ W ++ _) ++ sp) _ :: F) w; rw [List.append_assoc]; exact hs
  · clear hs hD hu hw hmm hn hT hbb
    rintro ⟨P, U, W, Q⟩ w ⟨hl, hmm, hn, hT, hD, hs⟩
    dsimp only [List.drop] at hl hmm hn hT hD hs ⊢
    refine zz ?_
    refine zc rfl (swapr_spec (M := []) hs hD hl.symm (by omega) (by rw [List.length_nil]; omega) rfl (by rw [List.length_nil]; omega) hN) ?_
    intro _ w hs
    refine zz ?_
    refine MC.end_ rfl ?_
    rw [← hT]
    exact hs
end Go.Proofs.YtkccjgllanpebaaGreatDoor
