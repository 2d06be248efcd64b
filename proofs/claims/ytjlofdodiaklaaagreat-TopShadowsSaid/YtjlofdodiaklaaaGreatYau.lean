/-
  Chains: the pages, one by one | Chains: read, Get, Drop | Chains: Get, Drop
-/
import Derived.Test.YtjlofdodiaklaaaGreatYat
import Derived.Test.YtjlofdodiaklaaaGreatYal
set_option maxHeartbeats 1000000
set_option linter.unusedVariables false
set_option linter.unusedSimpArgs false
namespace Go.Proofs.YtjlofdodiaklaaaGreat
open Go Go.Sl Go.Tr
attribute [local irreducible] LooksAt

structure Rx where
  er : Option Int
  head : Nat
  l : List Nat
  out : Bs
  b : Bs
  vb : Value
abbrev Rx.next (x : Rx) : Nat := (x.b.getD 0 0).toNat * 256 + (x.b.getD 1 0).toNat
abbrev Rx.n (x : Rx) (size : Nat) : Nat := min 254 (size - x.out.length)
structure Ch where
  z : Pw
  s : St
  mrk : Option (Nat × St)
  size : Nat
  head0 : Nat
  bsz : Nat
  bp : Nat
  bh : Nat
  b9 : Nat
  b10 : Nat
def Ch.go (C : Ch) (r : Res (List Nat × Bs)) : Prop := chainGo C.z.E C.size (pagesOf C.size) C.head0 [] [] C.s r C.s
def Ch.rest (C : Ch) (m head : Nat) (l : List Nat) (out : Bs) : Prop := ∀ r, chainGo C.z.E C.size m head l out C.s r C.s → C.go r
def Ch.yok (C : Ch) (x : Rx) : Prop := match x.er with
  | none => getM C.z.E x.head C.s (.ok x.b) C.s ∧ x.b.length = 256 ∧ (x.l.length + 1 ≤ pagesOf C.size ∧ x.out.length ≤ C.size) ∧ C.rest (pagesOf C.size - x.l.length) x.head x.l x.out
  | some e => x.b = [] ∧ x.vb = .slice none 0 0 ∧ (0 < e ∧ e ≤ 1000) ∧ C.go (.err e)
def Ch.nok (C : Ch) (x : Rx) : Prop := x.er = none ∧ C.yok x ∧ decide (x.next = 65535) = decide (x.l.length + 1 = pagesOf C.size) ∧ (x.b.drop (2 + x.n C.size)).any (· != 0) = false
def Bd (b9 b10 : Nat) (l : List Nat) (out : Bs) : Assn := Sl.ex fun vl : Value => Sl.ex fun vo : Value => star [blk b9 [vl] 56, sl vl 3 1 l.length (bufV l), blk b10 [vo] 44, sl vo 5 1 out.length (bytesV out)]
abbrev Ch.lb (C : Ch) : List Value := [ptr C.bsz, ptr C.bp, ptr C.bh]
abbrev Ch.base (C : Ch) (head : Nat) (l : List Nat) (out : Bs) (R : List Assn) : List Assn := blk C.bsz [int ((C.size : Nat) : Int)] 3 :: blk C.bp [ptr C.z.p] 31 :: blk C.bh [int ((head : Nat) : Int)] 3 :: pgr C.z C.s C.mrk :: Bd C.b9 C.b10 l out :: R
def Rx.ar (x : Rx) : Value × Value := (int (match x.er with
  | none => ((x.head : Nat) : Int)
  | some e => 0 - e), x.vb)
def Ch.Jy (C : Ch) (R : List Assn) (x : Rx) : List Assn := fact (C.yok x) :: sl x.vb 5 1 x.b.length (bytesV x.b) :: C.base x.head x.l x.out R
def Ch.Jn (C : Ch) (R : List Assn) (x : Rx) : List Assn := fact (C.nok x) :: sl x.vb 5 1 x.b.length (bytesV x.b) :: C.base x.head (x.l ++ [x.head]) (x.out ++ (x.b.drop 2).take (x.n C.size)) R
def Ch.JN (C : Ch) (R : List Assn) : List Assn := [Sl.ex fun y : {y : List Nat × Bs // C.go (.ok y)} => star [Bd C.b9 C.b10 y.1.1 y.1.2, pgr C.z C.s C.mrk]] ++ R
theorem Ch.step {C : Ch} {x : Rx} (h : C.nok x) (r : Res (List Nat × Bs)) (hr : chainGo C.z.E C.size (pagesOf C.size - (x.l.length + 1)) x.next (x.l ++ [x.head]) (x.out ++ (x.b.drop 2).take (x.n C.size)) C.s r C.s) : C.go r := by
  obtain ⟨h0, h1, h2, h3⟩ := h
  unfold Ch.yok at h1
  rw [h0] at h1
  obtain ⟨g1, g2, g3, g4⟩ := h1
  refine g4 r ?_
  rw [show pagesOf C.size - x.l.length = (pagesOf C.size - (x.l.length + 1)) + 1 by omega]
  unfold chainGo
  refine .inr ⟨x.b, C.s, g1, ?_⟩
  dsimp only []
  rw [if_neg (by rw [h2]; exact fun h => h rfl), if_neg (by rw [h3]; decide)]
  exact hr
theorem pages1_spec {C : Ch} {R : List Assn} (hs16 : C.size ≤ 16384) (hh : C.head0 ≤ 100000) (pre : List Assn) (Jx : World → Prop) :
    Iter2 Tryz.prog 130 C.lb (C.base C.head0 [] [] R) (C.JN R) Rx.ar (C.Jy R) (C.Jn R) pre Jx := by
  intro L w hround h0
  have hs := h0.app_swap
  dsimp only [List.cons_append] at hs
  have hpb : pagesOf C.size ≤ 1000 := by unfold pagesOf; omega
  have hpg := fun w => pages_spec (n := C.size) (w := w) (by omega)
  refine Ret.enter [(true, .func (.yield L) #[] #[]), (true, ptr C.bsz), (true, ptr C.bp), (true, ptr C.bh)] _ Tryz.func130 rfl Tryz.ntmps130 rfl ?_
  refine zz ?_
  refine MC.does true (does_call rfl (hpg _)) rfl ?_
  rintro _ w ⟨rfl, rfl⟩
  refine zz ?_
  refine MC.loop (σ := Nat × Nat × List Nat × Bs) (fun x => [(0, true, .func (.yield L) #[] #[]), (1, true, ptr C.bsz), (2, true, ptr C.bp), (3, true, ptr C.bh), (8, true, int ((pagesOf C.size : Nat) : Int)), (9, true, int ((x.1 : Nat) : Int))])
    (fun x w => x.1 ≤ pagesOf C.size ∧ x.2.2.1.length = x.1 ∧ (x.2.1 ≤ 100000 ∧ x.2.2.2.length ≤ C.size) ∧ C.rest (pagesOf C.size - x.1) x.2.1 x.2.2.1 x.2.2.2 ∧ Sat (C.base x.2.1 x.2.2.1 x.2.2.2 (R ++ pre)) w) (fun x => pagesOf C.size - x.1) (0, C.head0, [], []) (by repeat (first | exact trivial | refine ⟨rfl, ?_⟩)) ⟨Nat.zero_le _, rfl, ⟨hh, Nat.zero_le _⟩, fun r h => h, hs⟩ ?_
  clear hs
  rintro ⟨i, head, l, out⟩ w ⟨hi, hl, ⟨hhd, hol⟩, hr, hs⟩
  dsimp only [] at hi hl hhd hol hr hs ⊢
  rcases Nat.lt_or_ge i (pagesOf C.size) with hlt | hge
  · have hget := pget_spec (hs.pickF 4 [3, 0, 1, 2] rfl rfl) hhd
    refine zz ?_
    refine MC.does true (does_call rfl (hget)) rfl ?_
    rintro _ w (⟨b, s', hm, vb, rfl, hbl, hs⟩ | ⟨e, s', he, hm, vb, rfl, hs⟩)
    · obtain rfl : s' = C.s := hm.1
      have hs := hs.pickF 5 [0, 2, 3, 4, 1] rfl rfl
      obtain ⟨_, q, c, rfl, hc⟩ := hs.sl_len
      rw [hbl] at hc
      obtain ⟨x, hx⟩ : ∃ x : Rx, x = ⟨none, head, l, out, b, .slice q b.length c⟩ := ⟨_, rfl⟩
      have hyok : C.yok x := by
        subst hx
        exact ⟨hm, hbl, ⟨by show l.length + 1 ≤ _; omega, hol⟩, by show C.rest (pagesOf C.size - l.length) head l out; rw [hl]; exact hr⟩
      have hjy : Sat (pre ++ C.Jy R x) w := by
        refine Sat.app_swap ?_
        subst hx
        exact Sat.fact_iff.2 ⟨hyok, hs⟩
      refine zz ?_
      have hy := hround x w hjy
      have hax : x.ar = (int ((head : Nat) : Int), .slice q b.length c) := by subst hx; rfl
      rw [hax] at hy
      refine MC.does true (does_yield rfl rfl hy) rfl ?_
      rintro _ w (⟨rfl, hs⟩ | ⟨rfl, hs⟩)
      · have hs := hs.app_swap
        obtain ⟨hnok, hs⟩ := Sat.fact_iff.1 hs
        have hst := C.step hnok
        subst hx
        dsimp only [] at hs hst
        have hs : Sat (sl (.slice q b.length c) 5 1 b.length (bytesV b) :: C.base head (l ++ [head]) (out ++ (b.drop 2).take (min 254 (C.size - out.length))) (R ++ pre)) w := hs
        have hs := hs.pickF 6 [1, 2, 3, 4, 5, 0] rfl rfl
        have hr0 := RdS.of_sl hs.tail.tail.tail.tail.tail
        obtain ⟨lb, lo, rfl, hrl⟩ := hr0.at_ (by omega)
        have hb0 := Go.Sl.bytesV_get b 0 (by omega)
        have hb1 := Go.Sl.bytesV_get b 1 (by omega)
        have hd0 := byteAt_bd b 0
        have hd1 := byteAt_bd b 1
        refine zz ?_
        refine MC.draw hs [0, 1, 2, 3, 4, 5, 6, 7, 8, 9, 10] (by rfl) ?_; intro w hs
        refine zd ?_
        refine MC.laD true (la_load1_rd hrl hs (j := Int.toNat 0 * 1) rfl hb0) rfl ?_
        refine zd ?_
        refine MC.laD true (la_load1_rd hrl hs (j := Int.toNat 1 * 1) rfl hb1) rfl ?_
        refine zd ?_
        refine MC.pure (f := true) (po_bin rfl rfl (br_orS' 8 (byteAt b 0).toNat hd1.1 (by show byteAt b 1 < 256; omega) (by show byteAt b 0 * 256 = ((byteAt b 0).toNat : Int) * 256; omega) (by simp [IntKind.max, IntKind.signed, IntKind.bits]; omega))) rfl ?_
        refine zd ?_
        refine MC.doesK true (does_store1 hs rfl rfl rfl (by first | decide | (simp; done) | (simp; omega))) rfl rfl rfl ?_; intro _ w hs; refine zh ?_
        refine zd ?_
        refine zz ?_
        have en : byteAt b 0 * 256 + byteAt b 1 = (((b.getD 0 0).toNat * 256 + (b.getD 1 0).toNat : Nat) : Int) := by
          rw [List.getD_eq_getElem?_getD, List.getD_eq_getElem?_getD, Int.natCast_add, Int.natCast_mul]
          rfl
        have ex2 : (b.getD 0 0).toNat * 256 + (b.getD 1 0).toNat ≤ 100000 := by
          have h1 := (b.getD 0 0).toNat_lt
          have h2 := (b.getD 1 0).toNat_lt
          omega
        rw [en] at hs
        exact MC.again (i + 1, (b.getD 0 0).toNat * 256 + (b.getD 1 0).toNat, l ++ [head], out ++ (b.drop 2).take (min 254 (C.size - out.length))) (by repeat (first | exact trivial | refine ⟨rfl, ?_⟩)) ⟨hlt, by simp [hl], ⟨ex2, by show (out ++ _).length ≤ _; rw [List.length_append, List.length_take]; omega⟩, fun r h => hst r (by rw [← hl] at h; exact h), (hs.pickF 6 [5, 0, 1, 2, 3, 4] rfl rfl).tail⟩ (by show pagesOf C.size - (i + 1) < pagesOf C.size - i; omega)
      · refine zz ?_
        refine MC.ret rfl ?_
        exact .inr hs
    · obtain rfl : s' = C.s := hm.1
      have hs := hs.pickF 4 [1, 2, 3, 0] rfl rfl
      have hebd : 0 < e ∧ e ≤ 1000 := by
        obtain ⟨_, h⟩ := hm
        split at h
        · cases h
        · split at h
          · rcases h with h | ⟨_, h⟩
            · cases h
            · cases h; decide
          · cases h; decide
      obtain ⟨x, hx⟩ : ∃ x : Rx, x = ⟨some e, head, l, out, [], .slice none 0 0⟩ := ⟨_, rfl⟩
      have hgo : C.go (.err e) := by
        refine hr _ ?_
        rw [show pagesOf C.size - i = (pagesOf C.size - (i + 1)) + 1 by omega]
        unfold chainGo
        exact .inl ⟨e, hm, rfl⟩
      have hjy : Sat (pre ++ C.Jy R x) w := by
        refine Sat.app_swap ?_
        subst hx
        refine Sat.fact_iff.2 ⟨⟨rfl, rfl, hebd, hgo⟩, ?_⟩
        exact hs.sl_nil _ _
      have hy := hround x w hjy
      have hax : x.ar = (int (0 - e), .slice none 0 0) := by subst hx; rfl
      rw [hax] at hy
      refine zz ?_
      refine MC.does true (does_yield rfl rfl hy) rfl ?_
      rintro _ w (⟨rfl, hs⟩ | ⟨rfl, hs⟩)
      · obtain ⟨hnok, _⟩ := Sat.fact_iff.1 hs.app_swap
        subst hx
        exact absurd hnok.1 (by simp)
      · refine zz ?_
        refine MC.ret rfl ?_
        exact .inr hs
  · obtain rfl : i = pagesOf C.size := by omega
    refine zz ?_
    refine MC.end_ rfl ?_
    refine .inl (Sat.app_swap ?_)
    have hgo : C.go (.ok (l, out)) := by
      refine hr _ ?_
      rw [Nat.sub_self]
      exact ⟨rfl, rfl⟩
    have hs := (hs.pickF 5 [4, 3, 0, 1, 2] rfl rfl)
    have hs := Sat.restar (l := [_, _]) hs
    have hs := (hs.pickF 4 [1, 2, 3, 0] rfl rfl).tail.tail.tail
    exact Sat.ex_iff.2 ⟨⟨(l, out), hgo⟩, hs⟩
end Go.Proofs.YtjlofdodiaklaaaGreat

namespace Go.Proofs.YtjlofdodiaklaaaGreat
open Go Go.Sl Go.Tr
attribute [local irreducible] LooksAt

theorem Bd_open {F : List Assn} {b9 b10 : Nat} {l : List Nat} {out : Bs} {w : World} (hs : Sat (Bd b9 b10 l out :: F) w) : ∃ q n c q' n' c', n = l.length ∧ n' = out.length ∧ Sat (blk b9 [.slice q n c] 56 :: sl (.slice q n c) 3 1 l.length (bufV l) :: blk b10 [.slice q' n' c'] 44 :: sl (.slice q' n' c') 5 1 out.length (bytesV out) :: F) w := by
  obtain ⟨vl, hs⟩ := Sat.ex_iff.1 hs
  obtain ⟨vo, hs⟩ := Sat.ex_iff.1 hs
  have hs := Sat.unstar (l := [_, _, _, _]) hs
  obtain ⟨_, q, c, rfl, _⟩ := hs.tail.sl_len
  obtain ⟨_, q', c', rfl, _⟩ := hs.tail.tail.tail.sl_len
  exact ⟨q, _, c, q', _, c', rfl, rfl, hs⟩
theorem Bd_mk {F : List Assn} {b9 b10 : Nat} {l : List Nat} {out : Bs} {vl vo : Value} {w : World} (hs : Sat (blk b9 [vl] 56 :: sl vl 3 1 l.length (bufV l) :: blk b10 [vo] 44 :: sl vo 5 1 out.length (bytesV out) :: F) w) : Sat (Bd b9 b10 l out :: F) w :=
  Sat.ex_iff.2 ⟨vl, Sat.ex_iff.2 ⟨vo, Sat.restar (l := [_, _, _, _]) hs⟩⟩
section
variable {F : List Assn} {z : Pw} {s : St} {mk : Option (Nat × St)} {w : World}
theorem cpages_spec {F : List Assn} {p head size : Nat} {w : World} (hs : Sat F w) :
    Ret Tryz.prog 122 [ptr p, int ((head : Nat) : Int), int ((size : Nat) : Int)] w fun v w' => ∃ bsz bp bh, v = .func (.func 130) #[] #[ptr bsz, ptr bp, ptr bh] ∧ Sat (blk bsz [int ((size : Nat) : Int)] 3 :: blk bp [ptr p] 31 :: blk bh [int ((head : Nat) : Int)] 3 :: F) w' := by
  refine Ret.enter [(true, ptr p), (true, int ((head : Nat) : Int)), (true, int ((size : Nat) : Int))] _ Tryz.func122 rfl Tryz.ntmps122 rfl ?_
  refine zz ?_
  refine MC.does true (does_box hs rfl rfl) rfl ?_; rintro _ w ⟨bp, rfl, hs⟩
  refine zz ?_
  refine MC.does true (does_box hs rfl rfl) rfl ?_; rintro _ w ⟨bh, rfl, hs⟩
  refine zz ?_
  refine MC.does true (does_box hs rfl rfl) rfl ?_; rintro _ w ⟨bsz, rfl, hs⟩
  refine zz ?_
  refine MC.pure (f := true) (po_makeFunc (vf := []) (vc := [ptr bsz, ptr bp, ptr bh]) rfl rfl) rfl ?_
  refine zz ?_
  refine MC.ret rfl ?_
  exact ⟨bsz, bp, bh, rfl, hs.pickF 3 [0, 2, 1] rfl rfl⟩
def OutR (m : M (List Nat × Bs)) (z : Pw) (s : St) (mk : Option (Nat × St)) (F : List Assn) : Value → World → Prop := Out m s
  (fun x s' v w => ∃ vl vo, v = .tuple #[vl, vo, int 0] ∧ Sat (sl vl 3 1 x.1.length (bufV x.1) :: sl vo 5 1 x.2.length (bytesV x.2) :: pgr z s' mk :: F) w)
  (fun e s' v w => v = .tuple #[.slice none 0 0, .slice none 0 0, int e] ∧ Sat (pgr z s' mk :: F) w)
theorem cread_spec {head size : Nat} (hs : Sat (pgr z s mk :: F) w) (hh : head ≤ 100000) (hsz : size ≤ 4294967296) :
    Ret Tryz.prog 106 [ptr z.p, int ((head : Nat) : Int), int ((size : Nat) : Int)] w (OutR (chainRead z.E head size) z s mk F) := by
  refine Ret.enterM [(true, ptr z.p), (true, int ((head : Nat) : Int)), (true, int ((size : Nat) : Int))] _ Tryz.func106 rfl Tryz.ntmps106 rfl ?_
  refine zz ?_
  refine MC.does true (does_box hs rfl rfl) rfl ?_; rintro _ w ⟨b5, rfl, hs⟩
  refine zz ?_
  refine MC.does true (does_alloc hs) rfl ?_; rintro _ w ⟨b6, rfl, hs⟩
  refine zz ?_
  refine MC.does true (does_alloc hs) rfl ?_; rintro _ w ⟨b7, rfl, hs⟩
  refine zz ?_
  refine MC.does true (does_alloc hs) rfl ?_; rintro _ w ⟨b8, rfl, hs⟩
  by_cases hbig : 16384 < size
  · refine zz ?_
    refine MC.does true (does_store1 hs rfl rfl rfl (by first | decide | (simp; done) | (simp; omega))) rfl ?_; intro _ w hs
    refine zz ?_
    refine MC.does true (does_store1 hs rfl rfl rfl (by first | decide | (simp; done) | (simp; omega))) rfl ?_; intro _ w hs
    refine zz ?_
    refine MC.does true (does_store1 hs rfl rfl rfl (by first | decide | (simp; done) | (simp; omega))) rfl ?_; intro _ w hs
    refine zz ?_
    refine MC.retMc0 fun a hf => ⟨_, run_results3 hf rfl hs rfl rfl rfl, .inr ⟨2, s, by decide, by unfold chainRead; rw [if_pos hbig]; exact ⟨rfl, rfl⟩, rfl, hs.tail.tail.tail.tail⟩⟩
  · refine zz ?_
    refine MC.does true (does_alloc hs) rfl ?_; rintro _ w ⟨b9, rfl, hs⟩
    refine zz ?_
    refine MC.does true (does_alloc hs) rfl ?_; rintro _ w ⟨b10, rfl, hs⟩
    refine zz ?_
    refine MC.does true (does_call rfl (cpages_spec hs)) rfl ?_
    rintro _ w ⟨bsz, bp, bh, rfl, hs⟩
    refine zz ?_
    have hs := (hs.sl_nil 3 1).sl_nil 5 1
    have hs := hs.pickF 12 [6, 1, 5, 0, 11, 2, 3, 4, 9, 8, 7, 10] rfl rfl
    have hs := Bd_mk (l := []) (out := []) hs
    have hs := hs.pickF 5 [2, 3, 4, 1, 0] rfl rfl
    obtain ⟨C, hC⟩ : ∃ C : Ch, C = ⟨z, s, mk, size, head, bsz, bp, bh, b9, b10⟩ := ⟨_, rfl⟩
    refine MC.rangeFunc2 rfl (lb := [ptr bsz, ptr bp, ptr bh]) (C.base C.head0 [] [] (blk b6 [.slice none 0 0] 56 :: blk b7 [.slice none 0 0] 44 :: blk b8 [int 0] 25 :: blk b5 [int ((size : Nat) : Int)] 3 :: F))
      (C.JN (blk b6 [.slice none 0 0] 56 :: blk b7 [.slice none 0 0] 44 :: blk b8 [int 0] 25 :: blk b5 [int ((size : Nat) : Int)] 3 :: F)) Rx.ar
      (C.Jy (blk b6 [.slice none 0 0] 56 :: blk b7 [.slice none 0 0] 44 :: blk b8 [int 0] 25 :: blk b5 [int ((size : Nat) : Int)] 3 :: F))
      (C.Jn (blk b6 [.slice none 0 0] 56 :: blk b7 [.slice none 0 0] 44 :: blk b8 [int 0] 25 :: blk b5 [int ((size : Nat) : Int)] 3 :: F))
      [.ret] (fun _ => (Sl.ex fun e : {e : Int // e ≠ 0 ∧ C.go (.err e)} => star [blk b6 [.slice none 0 0] 56, blk b7 [.slice none 0 0] 44, blk b8 [int e.1] 25]) :: pgr z s mk :: F)
      rfl rfl rfl (by subst hC; exact hs) ?_ ?_ ?_ ?_
    · intro pre Jx
      have := pages1_spec (C := C) (R := blk b6 [.slice none 0 0] 56 :: blk b7 [.slice none 0 0] 44 :: blk b8 [int 0] 25 :: blk b5 [int ((size : Nat) : Int)] 3 :: F) (by subst hC; show size ≤ 16384; omega) (by subst hC; exact hh) pre Jx
      subst hC
      exact this
    · intro L D x rec w hrec hs
      have hs := hs.pickF 3 [2, 0, 1] rfl rfl
      obtain ⟨hy, hs⟩ := Sat.fact_iff.1 hs
      refine zz ?_
      refine MC.begin hrec hs fun w hs => ?_
      obtain ⟨er, hd, l, out, b, vb⟩ := x
      cases er with
      | some e =>
        obtain ⟨hb0, hv0, he, hgo⟩ := hy
        dsimp only [] at hb0 hv0
        subst hb0; subst hv0; subst hC
        have hs : Sat (lp L (busy rec) :: shelf D :: blk b6 [.slice none 0 0] 56 :: blk b7 [.slice none 0 0] 44 :: blk b8 [int 0] 25 :: pgr z s mk :: blk b5 [int ((size : Nat) : Int)] 3 :: F) w := ((hs.pickF 12 [2, 3, 4, 5, 7, 0, 1, 8, 9, 10, 6, 11] rfl rfl).tail.tail.tail.tail.tail)
        refine zz ?_
        refine MC.pure (f := true) (po_bin rfl rfl br_slice_nil) rfl ?_
        refine zz ?_
        refine MC.does true (does_store1 hs rfl rfl rfl (by first | decide | (simp; done) | (simp; omega))) rfl ?_; intro _ w hs
        refine zz ?_
        refine MC.does true (does_store1 hs rfl rfl rfl (by first | decide | (simp; done) | (simp; omega))) rfl ?_; intro _ w hs
        refine zz ?_
        refine MC.does true (does_store1 hs rfl rfl rfl (by first | decide | (simp; done) | (simp; omega))) rfl ?_; intro _ w hs
        refine zz ?_
        refine MC.stopRet (List.mem_singleton.2 rfl) ?_
        have e9 : (0 : Int) - (0 - e) = e := by omega
        rw [e9] at hs
        have hs := (hs.pickF 6 [2, 3, 4, 0, 1, 5] rfl rfl)
        have hs := (((Sat.restar (l := [_, _, _]) hs).pickF 5 [4, 0, 1, 2, 3] rfl rfl).tail)
        have hs : Sat ((Sl.ex fun e : {e : Int // e ≠ 0 ∧ Ch.go ⟨z, s, mk, size, head, bsz, bp, bh, b9, b10⟩ (.err e)} => star [blk b6 [.slice none 0 0] 56, blk b7 [.slice none 0 0] 44, blk b8 [int e.1] 25]) :: lp L (busy rec) :: shelf D :: pgr z s mk :: F) w :=
          Sat.ex_iff.2 ⟨⟨e, by omega, hgo⟩, hs⟩
        exact hs.pickF 3 [1, 2, 0] rfl rfl
      | none =>
        obtain ⟨hgm, hbl, ⟨hlen, hol⟩, hrest⟩ := hy
        dsimp only [] at hgm hbl hlen hol hrest
        have hol : out.length ≤ size := by subst hC; exact hol
        have hs := (hs.pickF 8 [7, 2, 3, 4, 5, 6, 0, 1] rfl rfl)
        subst hC
        have hs := Bd_open hs
        obtain ⟨q, n, c, q', n', c', rfl, rfl, hs⟩ := hs
        have hs : Sat (blk b9 [.slice q l.length c] 56 :: sl (.slice q l.length c) 3 1 l.length (bufV l) :: blk b10 [.slice q' out.length c'] 44 :: sl (.slice q' out.length c') 5 1 out.length (bytesV out) :: sl vb 5 1 b.length (bytesV b) ::
          blk bsz [int ((size : Nat) : Int)] 3 :: blk bp [ptr z.p] 31 :: blk bh [int ((hd : Nat) : Int)] 3 :: pgr z s mk :: lp L (busy rec) :: shelf D :: blk b6 [.slice none 0 0] 56 :: blk b7 [.slice none 0 0] 44 :: blk b8 [int 0] 25 :: blk b5 [int ((size : Nat) : Int)] 3 :: F) w := hs
        obtain ⟨_, qv, cv, rfl, hcv⟩ := hs.tail.tail.tail.tail.sl_len
        have hr0 := RdS.of_sl hs.tail.tail.tail.tail
        obtain ⟨lb, lo, rfl, hrl⟩ := hr0.at_ (by omega)
        refine zz ?_
        refine MC.pure (f := true) (po_bin rfl rfl br_slice_nil) rfl ?_
        refine zz ?_
        refine MC.does true (does_buildL hs rfl rfl rfl (all1 rfl) rfl) rfl ?_; rintro _ w ⟨bt, rfl, hs⟩
        refine zz ?_
        have hll : l.length ≤ 1000 := by
          have : pagesOf size ≤ 1000 := by unfold pagesOf; omega
          have h2 : l.length + 1 ≤ pagesOf size := hlen
          omega
        refine MC.does true (does_append hs rfl rfl (src_at rfl (all1 rfl)) (by omega) (by omega)) rfl ?_
        intro va w hs
        obtain ⟨_, q2, c2, rfl, hc2⟩ := hs.tail.tail.sl_len
        refine zz ?_
        refine MC.does true (does_store1 hs rfl rfl rfl (by first | decide | (simp; done) | (simp; omega))) rfl ?_; intro _ w hs
        have e3 : bufV l ++ [(Rx.ar ⟨none, hd, l, out, b, .slice (some ⟨lb, lo, none⟩) b.length cv⟩).1] = bufV (l ++ [hd]) := by
          show bufV l ++ [int ((hd : Nat) : Int)] = _
          simp [bufV]
        rw [e3] at hs
        have hb0 := Go.Sl.bytesV_get b 0 (by omega)
        have hb1 := Go.Sl.bytesV_get b 1 (by omega)
        have hd0 := byteAt_bd b 0
        have hd1 := byteAt_bd b 1
        refine zz ?_
        refine MC.draw hs [0, 1, 2, 3, 4, 5, 6, 7, 8, 9, 10] (by rfl) ?_; intro w hs
        refine zd ?_
        refine MC.laD true (la_load1_rd hrl hs (j := Int.toNat 0 * 1) rfl hb0) rfl ?_
        refine zd ?_
        refine MC.laD true (la_load1_rd hrl hs (j := Int.toNat 1 * 1) rfl hb1) rfl ?_
        refine zd ?_
        refine MC.pure (f := true) (po_bin rfl rfl (br_orS' 8 (byteAt b 0).toNat hd1.1 (by show byteAt b 1 < 256; omega) (by show byteAt b 0 * 256 = ((byteAt b 0).toNat : Int) * 256; omega) (by simp [IntKind.max, IntKind.signed, IntKind.bits]; omega))) rfl ?_
        refine zd ?_
        refine zz ?_
        have hpg := fun w => pages_spec (n := size) (w := w) (by omega)
        refine MC.draw hs [0, 1, 2, 3, 4, 5, 6, 7] (by rfl) ?_; intro w hs
        refine zd ?_
        refine MC.doesK true (does_call rfl (hpg _)) rfl rfl rfl ?_
        rintro _ w' ⟨rfl, rfl⟩
        refine zh ?_
        refine zd ?_
        refine MC.pure (f := true) (po_bin rfl rfl br_bool_ne) rfl ?_
        refine zd ?_
        refine MC.opsEnd ?_
        have en : byteAt b 0 * 256 + byteAt b 1 = (((b.getD 0 0).toNat * 256 + (b.getD 1 0).toNat : Nat) : Int) := by
          rw [List.getD_eq_getElem?_getD, List.getD_eq_getElem?_getD, Int.natCast_add, Int.natCast_mul]
          rfl
        refine MC.condB rfl (fun hb => ?_) (fun hb => ?_)
        · refine zz ?_
          refine MC.does true (does_store1 hs rfl rfl rfl (by first | decide | (simp; done) | (simp; omega))) rfl ?_; intro _ w hs
          refine zz ?_
          refine MC.does true (does_store1 hs rfl rfl rfl (by first | decide | (simp; done) | (simp; omega))) rfl ?_; intro _ w hs
          refine zz ?_
          refine MC.does true (does_store1 hs rfl rfl rfl (by first | decide | (simp; done) | (simp; omega))) rfl ?_; intro _ w hs
          refine zz ?_
          refine MC.stopRet (List.mem_singleton.2 rfl) ?_
          have hgo : Ch.go ⟨z, s, mk, size, head, bsz, bp, bh, b9, b10⟩ (.err 200) := by
            refine hrest _ ?_
            show chainGo z.E size (pagesOf size - l.length) hd l out s _ s
            rw [show pagesOf size - l.length = (pagesOf size - (l.length + 1)) + 1 by have : l.length + 1 ≤ pagesOf size := hlen; omega]
            unfold chainGo
            refine .inr ⟨b, s, hgm, ?_⟩
            dsimp only []
            rw [if_pos (fun h => by
              have hb := of_decide_eq_true hb
              rw [en] at hb
              refine hb ?_
              simp only [decide_eq_decide] at h ⊢
              omega)]
            exact ⟨rfl, rfl⟩
          have hs := (hs.pickF 16 [0, 1, 2, 3, 4, 5, 6, 7, 8, 15, 12, 13, 14, 10, 11, 9] rfl rfl).tail.tail.tail.tail.tail.tail.tail.tail.tail.tail
          have hs : Sat ((Sl.ex fun e : {e : Int // e ≠ 0 ∧ Ch.go ⟨z, s, mk, size, head, bsz, bp, bh, b9, b10⟩ (.err e)} => star [blk b6 [.slice none 0 0] 56, blk b7 [.slice none 0 0] 44, blk b8 [int e.1] 25]) :: lp L (busy rec) :: shelf D :: pgr z s mk :: F) w :=
            Sat.ex_iff.2 ⟨⟨200, by decide, hgo⟩, Sat.restar (l := [_, _, _]) hs⟩
          exact hs.pickF 3 [1, 2, 0] rfl rfl
        · refine zz ?_
          have em : (2 : Int) + min 254 ((size : Int) - (out.length : Int)) = ((2 + min 254 (size - out.length) : Nat) : Int) := by omega
          have em2 : min 254 ((size : Int) - (out.length : Int)) = ((min 254 (size - out.length) : Nat) : Int) := by omega
          rw [em, em2]
          have hcut : 2 + min 254 (size - out.length) ≤ b.length := by omega
          refine MC.pure (f := true) (po_slice_lo (a := 2 + min 254 (size - out.length)) rfl rfl hcut) rfl ?_
          refine zz ?_
          obtain ⟨a, ha⟩ : ∃ a, 2 + min 254 (size - out.length) = a := ⟨_, rfl⟩
          rw [ha] at hcut
          rw [ha]
          have hsub := hr0.subLo (a := a) hcut
          refine MC.loop (σ := Nat) (fun i => [(5, true, ptr b5), (6, true, ptr b6), (7, true, ptr b7), (8, true, ptr b8), (9, true, ptr b9), (10, true, ptr b10), (12, true, .slice (some ⟨lb, lo, none⟩) b.length cv), (14, true, int ((min 254 (size - out.length) : Nat) : Int)), (63, true, .slice (cutAt (some ⟨lb, lo, none⟩) a cv 1) (b.length - a) (cv - a)), (64, true, int ((b.length - a : Nat) : Int)), (65, true, int ((i : Nat) : Int))])
            (fun i w1 => i ≤ b.length - a ∧ (∀ j, j < i → (b.drop a).getD j 0 = 0) ∧ w1 = w') (fun i => b.length - a - i) 0 (by repeat (first | exact trivial | refine ⟨rfl, ?_⟩)) ⟨Nat.zero_le _, fun j h => by omega, rfl⟩ ?_
          rintro i w1 ⟨hi, hz, rfl⟩
          rcases Nat.lt_or_ge i (b.length - a) with hlt | hge
          · obtain ⟨lb2, lo2, hq, hr2⟩ := hsub.at_ (by omega)
            rw [hq]
            have hbi := Go.Sl.bytesV_get (b.drop a) i (by rw [List.length_drop]; omega)
            have hbd := byteAt_bd (b.drop a) i
            refine zz ?_
            refine MC.la true (la_load1_rd hr2 hs (j := ((i : Nat) : Int).toNat * 1) rfl (by rw [Int.toNat_natCast, Nat.mul_one]; exact hbi)) rfl ?_
            by_cases hb0 : byteAt (b.drop a) i = 0
            · rw [hb0]
              refine zz ?_
              exact MC.again (i + 1) (by repeat (first | exact trivial | refine ⟨rfl, ?_⟩)) ⟨hlt, fun j hj => by
                rcases Nat.lt_or_ge j i with h' | h'
                · exact hz j h'
                · obtain rfl : j = i := by omega
                  unfold byteAt at hb0
                  rw [List.getD_eq_getElem?_getD]
                  exact UInt8.toNat_inj.1 (by simpa using hb0), rfl⟩ (by omega)
            · refine zz ?_
              refine MC.does true (does_store1 hs rfl rfl rfl (by first | decide | (simp; done) | (simp; omega))) rfl ?_; intro _ w hs
              refine zz ?_
              refine MC.does true (does_store1 hs rfl rfl rfl (by first | decide | (simp; done) | (simp; omega))) rfl ?_; intro _ w hs
              refine zz ?_
              refine MC.does true (does_store1 hs rfl rfl rfl (by first | decide | (simp; done) | (simp; omega))) rfl ?_; intro _ w hs
              refine zz ?_
              refine MC.stopRet (List.mem_singleton.2 rfl) ?_
              have hgo : Ch.go ⟨z, s, mk, size, head, bsz, bp, bh, b9, b10⟩ (.err 200) := by
                refine hrest _ ?_
                show chainGo z.E size (pagesOf size - l.length) hd l out s _ s
                rw [show pagesOf size - l.length = (pagesOf size - (l.length + 1)) + 1 by have : l.length + 1 ≤ pagesOf size := hlen; omega]
                unfold chainGo
                refine .inr ⟨b, s, hgm, ?_⟩
                dsimp only []
                by_cases h1 : decide ((b.getD 0 0).toNat * 256 + (b.getD 1 0).toNat = 65535) ≠ decide (l.length + 1 = pagesOf size)
                · rw [if_pos h1]; exact ⟨rfl, rfl⟩
                · rw [if_neg h1, ha, if_pos]
                  · exact ⟨rfl, rfl⟩
                  · rw [List.any_eq_true]
                    refine ⟨(b.drop a)[i]'(by rw [List.length_drop]; omega), List.getElem_mem _, ?_⟩
                    have : byteAt (b.drop a) i = (((b.drop a)[i]'(by rw [List.length_drop]; omega)).toNat : Int) := by
                      unfold byteAt; rw [List.getElem?_eq_getElem (by rw [List.length_drop]; omega)]; rfl
                    rw [this] at hb0
                    have h0 : ¬ (b.drop a)[i]'(by rw [List.length_drop]; omega) = 0 := fun h => hb0 (by rw [h]; rfl)
                    simpa using h0
              have hs := (hs.pickF 16 [0, 1, 2, 3, 4, 5, 6, 7, 8, 15, 12, 13, 14, 10, 11, 9] rfl rfl).tail.tail.tail.tail.tail.tail.tail.tail.tail.tail
              have hs : Sat ((Sl.ex fun e : {e : Int // e ≠ 0 ∧ Ch.go ⟨z, s, mk, size, head, bsz, bp, bh, b9, b10⟩ (.err e)} => star [blk b6 [.slice none 0 0] 56, blk b7 [.slice none 0 0] 44, blk b8 [int e.1] 25]) :: lp L (busy rec) :: shelf D :: pgr z s mk :: F) w :=
                Sat.ex_iff.2 ⟨⟨200, by decide, hgo⟩, Sat.restar (l := [_, _, _]) hs⟩
              exact hs.pickF 3 [1, 2, 0] rfl rfl
          · obtain rfl : i = b.length - a := by omega
            refine zz ?_
            have hr1 := hr0.sub (a := 2) (b := a) (by omega) hcut (cv - 2) (by omega)
            refine MC.draw hs [0, 1, 2, 3, 4, 5, 6] (by rfl) ?_; intro w hs
            refine zd ?_
            have e75 : (2 : Int) + ((min 254 (size - out.length) : Nat) : Int) = ((a : Nat) : Int) := by omega
            rw [e75]
            refine MC.pure (f := true) (po_slice (a := 2) (b := a) rfl rfl rfl (by omega) (by omega)) rfl ?_
            refine MC.doesK true (does_append hs rfl rfl (RdS.src hr1 (bytesV_one _)) (by omega) (by omega)) rfl rfl rfl ?_
            intro vo w hs
            refine zh ?_
            obtain ⟨_, qo, co, rfl, hco⟩ := (hs.pickF 6 [4, 0, 1, 2, 3, 5] rfl rfl).sl_len
            refine zd ?_
            refine MC.doesD true (does_store1 hs rfl rfl rfl (by first | decide | (simp; done) | (simp; omega))) rfl rfl rfl rfl ?_; intro _ w hs
            refine zd ?_
            refine zz ?_
            have ea2 : a - 2 = min 254 (size - out.length) := by omega
            have eo : out.length + (a - 2) = (out ++ (b.drop 2).take (a - 2)).length := by rw [List.length_append, List.length_take, List.length_drop]; omega
            have eb : bytesV out ++ bytesV ((b.take a).drop 2) = bytesV (out ++ (b.drop 2).take (a - 2)) := by rw [bytesV_append, List.drop_take]
            rw [eb, eo, ea2] at hs
            have en2 : l.length + 1 = (l ++ [hd]).length := by simp
            rw [en2] at hs
            have hs := hs.pickF 12 [1, 2, 3, 4, 10, 11, 5, 6, 7, 8, 9] rfl rfl
            refine MC.more hrec ?_
            have hnok : Ch.nok ⟨z, s, mk, size, head, bsz, bp, bh, b9, b10⟩ ⟨none, hd, l, out, b, .slice (some ⟨lb, lo, none⟩) b.length cv⟩ := by
              refine ⟨rfl, ⟨hgm, hbl, ⟨hlen, hol⟩, hrest⟩, ?_, ?_⟩
              · have hb := of_decide_eq_false hb
                rw [en] at hb
                have hb := Classical.not_not.1 hb
                simp only [decide_eq_decide] at hb ⊢
                show (b.getD 0 0).toNat * 256 + (b.getD 1 0).toNat = 65535 ↔ l.length + 1 = pagesOf size
                omega
              · show (b.drop (2 + min 254 (size - out.length))).any _ = _
                rw [ha]
                refine List.any_eq_false.2 fun x hx => ?_
                obtain ⟨j, hj, rfl⟩ := List.mem_iff_getElem.1 hx
                have := hz j (by rw [List.length_drop] at hj; exact hj)
                rw [List.getD_eq_getElem?_getD, List.getElem?_eq_getElem hj, Option.getD_some] at this
                rw [this]; decide
            have hs := (Bd_mk hs).pickF 8 [1, 2, 3, 4, 5, 6, 7, 0] rfl rfl
            exact (Sat.fact_iff.2 ⟨hnok, hs⟩).pickF 3 [1, 2, 0] rfl rfl
    · intro D w hs
      have hs := hs.swap
      obtain ⟨⟨⟨l, out⟩, hgo⟩, hs⟩ := Sat.ex_iff.1 hs
      have hs := Bd_open (Sat.unstar (l := [_, _]) hs)
      obtain ⟨q, n, c, q', n', c', rfl, rfl, hs⟩ := hs
      subst hC
      have hs : Sat (blk b9 [.slice q l.length c] 56 :: sl (.slice q l.length c) 3 1 l.length (bufV l) :: blk b10 [.slice q' out.length c'] 44 :: sl (.slice q' out.length c') 5 1 out.length (bytesV out) :: pgr z s mk :: shelf D :: blk b6 [.slice none 0 0] 56 :: blk b7 [.slice none 0 0] 44 :: blk b8 [int 0] 25 :: blk b5 [int ((size : Nat) : Int)] 3 :: F) w := hs.pickF 6 [0, 1, 2, 3, 4, 5] rfl rfl
      refine zz ?_
      refine MC.draw hs [0, 1, 2, 3, 4] (by rfl) ?_; intro w hs
      refine zd ?_
      refine MC.doesK true (does_store1 hs rfl rfl rfl (by first | decide | (simp; done) | (simp; omega))) rfl rfl rfl ?_; intro _ w hs; refine zh ?_
      refine zd ?_
      refine MC.doesK true (does_store1 hs rfl rfl rfl (by first | decide | (simp; done) | (simp; omega))) rfl rfl rfl ?_; intro _ w hs; refine zh ?_
      refine zd ?_
      refine MC.doesK true (does_store1 hs rfl rfl rfl (by first | decide | (simp; done) | (simp; omega))) rfl rfl rfl ?_; intro _ w hs; refine zh ?_
      refine zd ?_
      refine zz ?_
      have hs := hs.pickF 9 [5, 1, 3, 4, 6, 7, 8, 0, 2] rfl rfl
      refine MC.retMc hs fun w' hs' a hf => ⟨_, run_results3 hf rfl hs' rfl rfl rfl, .inl ⟨(l, out), s, ?_, .slice q l.length c, .slice q' out.length c', rfl, ?_⟩⟩
      · unfold chainRead
        rw [if_neg hbig]
        exact hgo
      · exact (hs'.pickF 9 [3, 4, 5, 6, 7, 8, 0, 1, 2] rfl rfl).tail.tail.tail.tail.tail.tail
    · intro c D w hc hs
      rw [List.mem_singleton.1 hc]
      refine MC.retMc hs fun w' hs' a hf => ?_
      obtain ⟨⟨e, he, hgo⟩, hs'⟩ := Sat.ex_iff.1 hs'
      have hs' := Sat.unstar (l := [_, _, _]) hs'
      dsimp only [List.cons_append, List.nil_append] at hs'
      refine ⟨_, run_results3 hf rfl hs' rfl rfl rfl, .inr ⟨e, s, he, ?_, rfl, hs'.tail.tail.tail⟩⟩
      unfold chainRead
      rw [if_neg hbig]
      subst hC
      exact hgo
end
end Go.Proofs.YtjlofdodiaklaaaGreat

namespace Go.Proofs.YtjlofdodiaklaaaGreat
open Go Go.Sl Go.Tr
attribute [local irreducible] LooksAt

section
variable {F : List Assn} {z : Pw} {s : St} {mk : Option (Nat × St)} {w : World}
def OutV (m : M Bs) (z : Pw) (s : St) (mk : Option (Nat × St)) (F : List Assn) : Value → World → Prop := Out m s (fun b s' v w => ∃ vb, v = .tuple #[vb, int 0] ∧ Sat (sl vb 5 1 b.length (bytesV b) :: pgr z s' mk :: F) w) (fun e s' v w => ∃ vb, v = .tuple #[vb, int e] ∧ Sat (pgr z s' mk :: F) w)
theorem cget_spec' {head size : Nat} (hs : Sat (pgr z s mk :: F) w) (hh : head ≤ 100000) (hsz : size ≤ 4294967296) :
    Ret Tryz.prog 102 [ptr z.p, int ((head : Nat) : Int), int ((size : Nat) : Int)] w (OutV (chainGet z.E head size) z s mk F) := by
  refine Ret.enter [(true, ptr z.p), (true, int ((head : Nat) : Int)), (true, int ((size : Nat) : Int))] _ Tryz.func102 rfl Tryz.ntmps102 rfl ?_
  refine zz ?_
  refine MC.does true (does_call rfl (cread_spec hs hh hsz)) rfl ?_
  rintro _ w (⟨x, s', hm, vl, vo, rfl, hs⟩ | ⟨e, s', he, hm, rfl, hs⟩)
  · refine zz ?_
    refine MC.ret rfl ?_
    exact .inl ⟨x.2, s', .inr ⟨x, s', hm, rfl, rfl⟩, vo, rfl, hs.tail⟩
  · refine zz ?_
    refine MC.ret rfl ?_
    exact .inr ⟨e, s', he, .inl ⟨e, hm, rfl⟩, _, rfl, hs⟩
def dropsTo (E : En) (l : List Nat) (s : St) (i : Nat) (s' : St) : Prop := ∀ r s2, dropsM E (l.drop i) s' r s2 → dropsM E l s r s2
theorem read_small {E : En} : ∀ {m size head : Nat} {l : List Nat} {out : Bs} {s s' : St} {x : List Nat × Bs}, chainGo E size m head l out s (.ok x) s' → (∀ k ∈ l, k ≤ 100000) → head ≤ 100000 → (∀ k ∈ x.1, k ≤ 100000) ∧ x.1.length ≤ l.length + m
  | 0, size, head, l, out, s, s', x, h, hl, hh => by
    obtain ⟨h1, _⟩ := h
    cases h1
    exact ⟨hl, Nat.le_refl _⟩
  | m + 1, size, head, l, out, s, s', x, h, hl, hh => by
    unfold chainGo at h
    rcases h with ⟨e, _, h⟩ | ⟨b, s1, _, h⟩
    · cases h
    · dsimp only [] at h
      split at h
      · cases h.1
      · split at h
        · cases h.1
        · have h1 := (b.getD 0 0).toNat_lt
          have h2 := (b.getD 1 0).toNat_lt
          have := read_small h (fun k hk => by
            rcases List.mem_append.1 hk with hk | hk
            · exact hl k hk
            · rw [List.mem_singleton.1 hk]; exact hh) (by omega)
          exact ⟨this.1, by have := this.2; rw [List.length_append, List.length_singleton] at this; omega⟩
theorem cdrop_spec {head size : Nat} (hs : Sat (pgr z s mk :: F) w) (hh : head ≤ 100000) (hsz : size ≤ 4294967296) :
    Ret Tryz.prog 91 [ptr z.p, int ((head : Nat) : Int), int ((size : Nat) : Int)] w (OutU (chainDrop z.E head size) z s mk F) := by
  refine Ret.enter [(true, ptr z.p), (true, int ((head : Nat) : Int)), (true, int ((size : Nat) : Int))] _ Tryz.func91 rfl Tryz.ntmps91 rfl ?_
  refine zz ?_
  refine MC.does true (does_call rfl (cread_spec hs hh hsz)) rfl ?_
  rintro _ w (⟨x, s1, hm, vl, vo, rfl, hs⟩ | ⟨e, s', he, hm, rfl, hs⟩)
  · obtain ⟨_, q, c, rfl, hc⟩ := hs.sl_len
    have hb := hm
    unfold chainRead at hb
    split at hb
    · cases hb.1
    next hbig =>
    obtain ⟨hk, hl⟩ := read_small hb (fun k hk => by cases hk) hh
    have hl : x.1.length ≤ 1000 := by
      have h2 : pagesOf size ≤ 1000 := by unfold pagesOf; omega
      simp at hl; omega
    obtain ⟨l, hxl⟩ : ∃ l, x.1 = l := ⟨_, rfl⟩
    rw [hxl] at hs hk hl hc
    rw [hxl]
    have hs := hs.pickF 3 [0, 2] rfl rfl
    refine zz ?_
    refine MC.loop (σ := Nat × St) (fun i => [(0, true, ptr z.p), (24, true, .slice q l.length c), (25, true, int ((l.length : Nat) : Int)), (26, true, int ((i.1 : Nat) : Int))])
      (fun i w => i.1 ≤ l.length ∧ dropsTo z.E l s1 i.1 i.2 ∧ Sat (sl (.slice q l.length c) 3 1 l.length (bufV l) :: pgr z i.2 mk :: F) w) (fun i => l.length - i.1) (0, s1) (by repeat (first | exact trivial | refine ⟨rfl, ?_⟩)) ⟨Nat.zero_le _, fun r s2 h => h, hs⟩ ?_
    clear hs
    rintro ⟨i, s2⟩ w ⟨hi, hd, hs⟩
    dsimp only [] at hi hd hs ⊢
    rcases Nat.lt_or_ge i l.length with hlt | hge
    · have hr0 := RdS.of_sl hs
      obtain ⟨lb, lo, rfl, hrl⟩ := hr0.at_ (by omega)
      have hyat : (bufV l)[((i : Nat) : Int).toNat * 1]? = some (int ((l[i] : Nat) : Int)) := by
        rw [Int.toNat_natCast, Nat.mul_one]; simp [bufV, hlt]
      have hdr : l.drop i = l[i] :: l.drop (i + 1) := List.drop_eq_getElem_cons hlt
      refine zz ?_
      refine MC.la true (la_load1_rd hrl hs (j := ((i : Nat) : Int).toNat * 1) rfl hyat) rfl ?_
      have hs := hs.swap
      refine zz ?_
      refine MC.does true (does_call rfl (drop_spec hs (hk _ (List.getElem_mem hlt)))) rfl ?_
      rintro _ w (⟨_, s3, hp, rfl, hs⟩ | ⟨e, s3, he, hp, rfl, hs⟩)
      · refine zz ?_
        exact MC.again (i + 1, s3) (by repeat (first | exact trivial | refine ⟨rfl, ?_⟩)) ⟨hlt, fun r s4 h => hd _ _ (by rw [hdr]; exact .inr ⟨(), s3, hp, h⟩), hs.swap⟩ (by show l.length - (i + 1) < l.length - i; omega)
      · refine zz ?_
        refine MC.ret rfl ?_
        refine .inr ⟨e, s3, he, .inr ⟨x, s1, hm, ?_⟩, rfl, hs.swap.tail⟩
        show dropsM z.E x.1 s1 _ s3
        rw [hxl]
        exact hd _ _ (by rw [hdr]; exact .inl ⟨e, hp, rfl⟩)
    · obtain rfl : i = l.length := by omega
      refine zz ?_
      refine MC.ret rfl ?_
      refine .inl ⟨(), s2, .inr ⟨x, s1, hm, ?_⟩, rfl, hs.tail⟩
      show dropsM z.E x.1 s1 _ s2
      rw [hxl]
      exact hd _ _ (by rw [List.drop_length]; exact ⟨rfl, rfl⟩)
  · refine zz ?_
    refine MC.ret rfl ?_
    exact .inr ⟨e, s', he, .inl ⟨e, hm, rfl⟩, rfl, hs⟩
end
end Go.Proofs.YtjlofdodiaklaaaGreat
