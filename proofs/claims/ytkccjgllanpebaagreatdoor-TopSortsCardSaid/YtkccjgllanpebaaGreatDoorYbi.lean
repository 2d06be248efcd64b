/-
  Trees: truth, grow; Put's inner function | Trees: mend | Trees: change; Put | Trees: remove | Trees: shrink, Del's inner function, Del | Trees: New, Open, Root, Height, Count, Get | Stretches of a tree: ready, Range | Trees: Put, and why it was refused
-/
import Derived.Test.YtkccjgllanpebaaGreatDoorYbh
import Derived.Test.YtkccjgllanpebaaGreatDoorYbf
set_option maxHeartbeats 1000000
set_option linter.unusedVariables false
set_option linter.unusedSimpArgs false
namespace Go.Proofs.YtkccjgllanpebaaGreatDoor
open Go Go.Sl Go.Tr
attribute [local irreducible] LooksAt
section
variable {F : List Assn} {z : Pw} {s : St} {mk : Option (Nat × St)} {w : World} {tp : Nat}
abbrev tb (z : Pw) (tp : Nat) (a b c : Int) : Assn := blk tp [ptr z.p, int a, int b, int c] 63
def OutT (m : M T) (z : Pw) (s : St) (mk : Option (Nat × St)) (tp : Nat) (F : List Assn) : Value → World → Prop := Out m s
  (fun t s' v w => 1 ≤ t.height ∧ t.root ≤ 100000 ∧ v = int 0 ∧ Sat (pgr z s' mk :: tb z tp ((t.root : Nat) : Int) ((t.height : Nat) : Int) ((t.count : Nat) : Int) :: F) w)
  (fun e s' v w => v = int e ∧ ∃ a b c, Sat (pgr z s' mk :: tb z tp a b c :: F) w)
theorem truth_spec {b : Bool} {w : World} : Ret Tryz.prog 23 [bool b] w fun v w' => v = int (if b then 1 else 0) ∧ w' = w := by
  cases b with
  | true =>
    refine Ret.enter [(true, bool true)] _ Tryz.func23 rfl Tryz.ntmps23 rfl ?_
    refine zz ?_
    refine MC.ret rfl ?_
    exact ⟨rfl, rfl⟩
  | false =>
    refine Ret.enter [(true, bool false)] _ Tryz.func23 rfl Tryz.ntmps23 rfl ?_
    refine zz ?_
    refine MC.ret rfl ?_
    exact ⟨rfl, rfl⟩
theorem tgrow_spec {t : T} {md : Md} {vk : Value} {r0 : Int} (hs : Sat (pgr z s mk :: tb z tp r0 ((t.height : Nat) : Int) ((t.count : Nat) : Int) :: sl vk 5 1 md.key.length (bytesV md.key) :: F) w) (hmd : MdOk md) (h1 : 1 ≤ t.height) (hh : t.height ≤ 1000000) :
    Ret Tryz.prog 24 [ptr tp, .agg (mdC ((md.page : Nat) : Int) (pageI md.other) vk ((md.size : Nat) : Int)).toArray] w (OutT (growM z.E t md) z s mk tp F) := by
  obtain ⟨_, qk, ck, rfl, _⟩ := hs.tail.tail.sl_len
  obtain ⟨mpage, mother, mkey, msize⟩ := md
  obtain ⟨hmp, hmo, hms, hmk⟩ := hmd
  dsimp only [] at hmp hmo hms hmk hs ⊢
  refine Ret.enter [(true, ptr tp), (true, .agg (mdC ((mpage : Nat) : Int) (pageI mother) (.slice qk mkey.length ck) ((msize : Nat) : Int)).toArray)] _ Tryz.func24 rfl Tryz.ntmps24 rfl ?_
  refine zz ?_
  refine MC.does true (does_box hs rfl rfl) rfl ?_; rintro _ w ⟨b3, rfl, hs⟩
  refine zz ?_
  refine MC.does true (does_store1 hs rfl rfl rfl (by first | decide | (simp; done) | (simp; omega))) rfl ?_; intro _ w hs
  cases mother with
  | none =>
    dsimp only [pageI] at hs ⊢
    refine zz ?_
    refine MC.ret rfl ?_
    exact .inl ⟨{ t with root := mpage }, s, ⟨rfl, rfl⟩, h1, hmp, rfl, hs.pickF 4 [1, 2] rfl rfl⟩
  | some o =>
    have hmo := hmo o rfl
    dsimp only [pageI] at hs ⊢
    refine zz ?_
    refine MC.does true (does_buildL hs rfl rfl rfl (all1 rfl) rfl) rfl ?_; rintro _ w ⟨bk, rfl, hs⟩
    refine zz ?_
    refine MC.does true (does_buildL hs rfl rfl rfl (all1 rfl) rfl) rfl ?_; rintro _ w ⟨bi, rfl, hs⟩
    refine zz ?_
    refine MC.pure (f := true) (po_build (ls := [(1, [.slice (some ⟨bk, 0, none⟩) 1 1]), (3, [.slice (some ⟨bi, 0, none⟩) 2 2])]) (out := [bool false, .slice (some ⟨bk, 0, none⟩) 1 1, .slice none 0 0, .slice (some ⟨bi, 0, none⟩) 2 2]) rfl rfl ⟨⟨_, rfl, by simp⟩, ⟨_, rfl, by simp⟩, trivial⟩ rfl) rfl ?_
    have hs := hs.pickF 6 [3, 4, 0, 1, 5, 2] rfl rfl
    have hs : Sat (pgr z s mk :: tb z tp ((mpage : Nat) : Int) ((t.height : Nat) : Int) ((t.count : Nat) : Int) :: blk bi (bufV [mpage, o]) 3 :: blk bk [.slice qk mkey.length ck] 33 :: sl (.slice qk mkey.length ck) 5 1 mkey.length (bytesV mkey) :: blk b3 (mdC ((mpage : Nat) : Int) ((o : Nat) : Int) (.slice qk mkey.length ck) ((msize : Nat) : Int)) 71 :: F) w := hs
    have hd := hs.tail.tail
    have hrd : NdR (blk bi (bufV [mpage, o]) 3 :: blk bk [.slice qk mkey.length ck] 33 :: sl (.slice qk mkey.length ck) 5 1 mkey.length (bytesV mkey) :: blk b3 (mdC ((mpage : Nat) : Int) ((o : Nat) : Int) (.slice qk mkey.length ck) ((msize : Nat) : Int)) 71 :: F) ⟨.slice (some ⟨bk, 0, none⟩) 1 1, .slice none 0 0, .slice (some ⟨bi, 0, none⟩) 2 2, [.slice qk mkey.length ck], []⟩ ⟨false, [mkey], [], [mpage, o]⟩ :=
      ⟨(Rows.one_key (RdS.of_sl hd.tail.tail) hd.tail).up, ⟨⟨_, _, rfl, Nat.le_refl _, rfl, fun h => absurd h (by simp)⟩, fun i hi => absurd hi (by simp)⟩, ⟨_, _, rfl, Nat.le_refl _, rfl, fun _ => ⟨bi, 0, rfl, Rd.of_at⟩⟩, ⟨by simp, by simp, by simp⟩, fun k hk => by rw [List.mem_singleton.1 hk]; exact hmk, fun k hk => by cases hk⟩
    have hput := tput_spec (tp := tp) (page := none) hs hrd.up (fun k hk => by
      simp only [List.mem_cons, List.not_mem_nil, or_false] at hk
      rcases hk with h | h <;> (rw [h]; assumption)) (fun p h => by cases h)
    refine zc rfl (hput) ?_
    rintro _ w (⟨k, s', hm, hkl, rfl, hs⟩ | ⟨e, s', he, hm, k, rfl, hs⟩)
    · refine zz ?_
      refine MC.does true (does_store1 hs rfl rfl rfl (by first | decide | (simp; done) | (simp; omega))) rfl ?_; intro _ w hs
      refine zz ?_
      refine MC.does true (does_store1 hs rfl rfl rfl (by first | decide | (simp; done) | (simp; omega))) rfl ?_; intro _ w hs
      refine zz ?_
      refine MC.ret rfl ?_
      refine .inl ⟨{ t with root := k, height := t.height + 1 }, s', .inr ⟨k, s', hm, rfl, rfl⟩, by show 1 ≤ t.height + 1; omega, hkl, rfl, ?_⟩
      have hs := hs.pickF 6 [0, 1] rfl rfl
      show Sat (pgr z s' mk :: tb z tp ((k : Nat) : Int) (((t.height + 1 : Nat)) : Int) ((t.count : Nat) : Int) :: F) w
      push_cast
      exact hs
    · refine zz ?_
      refine MC.does true (does_store1 hs rfl rfl rfl (by first | decide | (simp; done) | (simp; omega))) rfl ?_; intro _ w hs
      refine zz ?_
      refine MC.does true (does_store1 hs rfl rfl rfl (by first | decide | (simp; done) | (simp; omega))) rfl ?_; intro _ w hs
      refine zz ?_
      refine MC.ret rfl ?_
      exact .inr ⟨e, s', he, .inl ⟨e, hm, rfl⟩, rfl, _, _, _, hs.pickF 6 [0, 1] rfl rfl⟩
theorem cell_len {E : En} {v cell : Bs} {s' : St} (h : cellM E v s (.ok cell) s') : cell.length ≤ 16 := by
  unfold cellM at h
  by_cases h1 : v.length ≤ 15
  · rw [if_pos h1] at h
    obtain ⟨h2, _⟩ := h
    cases h2
    simp; omega
  · rw [if_neg h1] at h
    rcases h with ⟨e, _, h⟩ | ⟨k, s1, _, h, _⟩
    · cases h
    · cases h
      simp
theorem tput1_spec {t : T} {key value : Bs} {vk vv : Value} {b0 b1 b2 : Nat} {r0 : Int} (hs : Sat (pgr z s mk :: tb z tp r0 ((t.height : Nat) : Int) ((t.count : Nat) : Int) :: blk b0 [ptr tp] 24 :: blk b1 [vv] 33 :: blk b2 [vk] 33 :: F) w) (hr0 : 1 ≤ t.height → r0 = ((t.root : Nat) : Int))
    (hkey : RdS F 1 vk key.length (bytesV key)) (hkl : key.length ≤ 255) (hval : RdS F 1 vv value.length (bytesV value)) (hvl : value.length ≤ 1000000) (hrt : t.root ≤ 100000) (hh : t.height ≤ 100000) (hct : t.count ≤ 1000000000) :
    Ret Tryz.prog 19 [ptr b0, ptr b1, ptr b2] w (OutT (putT z.E t key value) z s mk tp F) := by
  obtain ⟨qk, ck, rfl, _, _⟩ := hkey.shape
  obtain ⟨qv, cv, rfl, _, _⟩ := hval.shape
  have hcell := tcell_spec (tp := tp) hs hval.up hvl
  refine Ret.enter [(true, ptr b0), (true, ptr b1), (true, ptr b2)] _ Tryz.func19 rfl Tryz.ntmps19 rfl ?_
  refine zz ?_
  refine zc rfl (hcell) ?_
  rintro _ w (⟨cell, s1, hm, vc, rfl, hs⟩ | ⟨e, s', he, hm, vc, rfl, hs⟩)
  · have hcl := cell_len hm
    obtain ⟨_, qc, cc, rfl, _⟩ := hs.sl_len
    have hmod : ∀ (r : Res T) (s2 : St), (if t.height = 0 then (putNM z.E none ⟨true, [key], [cell], []⟩).bind fun k => M.pure ⟨k, 1, 1⟩
        else (insertM z.E t.height t.root key cell).bind fun x => growM z.E { t with count := t.count + (if x.2 then 1 else 0) } x.1) s1 r s2 → putT z.E t key value s r s2 := fun r s2 h => .inr ⟨cell, s1, hm, h⟩
    have hs := hs.swap
    by_cases h0 : t.height = 0
    · simp only [if_pos h0] at hmod
      refine zz ?_
      refine MC.does true (does_buildL hs rfl rfl rfl (all1 rfl) rfl) rfl ?_; rintro _ w ⟨bk, rfl, hs⟩
      refine zz ?_
      refine MC.does true (does_buildL hs rfl rfl rfl (all1 rfl) rfl) rfl ?_; rintro _ w ⟨bc, rfl, hs⟩
      refine MC.pure (f := true) (po_build (ls := [(0, [bool true]), (1, [.slice (some ⟨bk, 0, none⟩) 1 1]), (2, [.slice (some ⟨bc, 0, none⟩) 1 1])]) (out := [bool true, .slice (some ⟨bk, 0, none⟩) 1 1, .slice (some ⟨bc, 0, none⟩) 1 1, .slice none 0 0]) rfl rfl ⟨⟨_, rfl, by simp⟩, ⟨_, rfl, by simp⟩, ⟨_, rfl, by simp⟩, trivial⟩ rfl) rfl ?_
      have hs := hs.pickF 4 [2, 1, 0, 3] rfl rfl
      have hd := hs.tail
      have hrd : NdR _ ⟨.slice (some ⟨bk, 0, none⟩) 1 1, .slice (some ⟨bc, 0, none⟩) 1 1, .slice none 0 0, [.slice qk key.length ck], [.slice qc cell.length cc]⟩ ⟨true, [key], [cell], []⟩ :=
        ⟨Rows.one_key hkey.up hd, (Rows.one_key (RdS.of_sl hd.tail.tail) hd.tail).up, ⟨_, _, rfl, Nat.le_refl _, rfl, fun h => absurd h (by simp)⟩, ⟨by simp, by simp, by simp⟩, fun k hk => by rw [List.mem_singleton.1 hk]; omega, fun k hk => by rw [List.mem_singleton.1 hk]; omega⟩
      have hput := tput_spec (tp := tp) (page := none) hs hrd (fun k hk => by cases hk) (fun p h => by cases h)
      refine zc rfl (hput) ?_
      rintro _ w (⟨k, s', hm2, hkl2, rfl, hs⟩ | ⟨e, s', he, hm2, k, rfl, hs⟩)
      · refine zz ?_
        refine MC.does true (does_store1 hs rfl rfl rfl (by first | decide | (simp; done) | (simp; omega))) rfl ?_; intro _ w hs
        refine zz ?_
        refine MC.does true (does_store1 hs rfl rfl rfl (by first | decide | (simp; done) | (simp; omega))) rfl ?_; intro _ w hs
        refine zz ?_
        refine MC.does true (does_store1 hs rfl rfl rfl (by first | decide | (simp; done) | (simp; omega))) rfl ?_; intro _ w hs
        refine zz ?_
        refine MC.ret rfl ?_
        exact .inl ⟨⟨k, 1, 1⟩, s', hmod _ _ (.inr ⟨k, s', hm2, rfl, rfl⟩), Nat.le_refl _, hkl2, rfl, hs.pickF 8 [0, 4] rfl rfl⟩
      · refine zz ?_
        refine MC.does true (does_store1 hs rfl rfl rfl (by first | decide | (simp; done) | (simp; omega))) rfl ?_; intro _ w hs
        refine zz ?_
        refine MC.does true (does_store1 hs rfl rfl rfl (by first | decide | (simp; done) | (simp; omega))) rfl ?_; intro _ w hs
        refine zz ?_
        refine MC.does true (does_store1 hs rfl rfl rfl (by first | decide | (simp; done) | (simp; omega))) rfl ?_; intro _ w hs
        refine zz ?_
        refine MC.ret rfl ?_
        exact .inr ⟨e, s', he, hmod _ _ (.inl ⟨e, hm2, rfl⟩), rfl, _, _, _, hs.pickF 8 [0, 4] rfl rfl⟩
    · simp only [if_neg h0] at hmod
      obtain ⟨hh', hhe⟩ : ∃ h', t.height = h' + 1 := ⟨t.height - 1, by omega⟩
      have hr0 := hr0 (by omega)
      subst hr0
      have eh : ((t.height : Nat) : Int) = ((hh' : Nat) : Int) + 1 := by omega
      have hins := tinsert_spec (tp := tp) (page := t.root) hh' hs inferInstance hkey.up hkl (show cell.length ≤ 255 by omega) hrt (by omega)
      rw [← eh, ← hhe] at hins
      refine zz ?_
      refine MC.cutAtS 1 (σ := Bool × Int × Nat) (fun x => [(0, true, ptr b0), (8, true, ptr x.2.2), (9, true, bool x.1), (5, true, int x.2.1)]) (fun x w => (x.2.1 = 0 ∧ ∃ md vk s2, insertM z.E t.height t.root key cell s1 (.ok (md, x.1)) s2 ∧ MdOk md ∧ Sat (pgr z s2 mk :: tb z tp ((t.root : Nat) : Int) ((t.height : Nat) : Int) ((t.count : Nat) : Int) :: sl vk 5 1 md.key.length (bytesV md.key) :: blk x.2.2 (mdC ((md.page : Nat) : Int) (pageI md.other) vk ((md.size : Nat) : Int)) 71 :: blk b0 [ptr tp] 24 :: F) w) ∨
        (x.2.1 ≠ 0 ∧ ∃ s2, insertM z.E t.height t.root key cell s1 (.err x.2.1) s2 ∧ Sat (pgr z s2 mk :: tb z tp ((t.root : Nat) : Int) ((t.height : Nat) : Int) ((t.count : Nat) : Int) :: F) w)) rfl ?_ ?_
      rotate_left
      · refine MC.draw hs [0, 1, 2, 3, 4, 5, 6, 7, 8, 9, 10, 11, 12, 13, 14, 15, 16, 17, 18, 19] (by rfl) ?_; intro w hs
        refine zd ?_
        have hins := tinsert_spec (tp := tp) (page := t.root) hh' hs inferInstance hkey.up hkl (show cell.length ≤ 255 by omega) hrt (by omega)
        rw [← eh, ← hhe] at hins
        refine MC.fork 16 [11, 12, 13, 14, 15, 17, 18, 19] rfl rfl (does_call rfl hins) (does_alloc hs) ?_ ?_
        · rintro _ w (⟨⟨md, fr⟩, s2, hm2, hmd, vk2, rfl, hs⟩ | ⟨e, s2, he, hm2, a2, c2, q2, n2, cc2, d2, t2, rfl, hs⟩)
          · refine zh ?_
            dsimp only [] at hmd hs
            obtain ⟨_, qm, cm, rfl, _⟩ := hs.sl_len
            refine zd ?_
            refine MC.doesK true (does_alloc hs) rfl rfl rfl ?_; rintro _ w ⟨b8, rfl, hs⟩; refine zh ?_
            refine zd ?_
            refine MC.doesL true (does_store (vs := mdC ((md.page : Nat) : Int) (pageI md.other) (.slice qm md.key.length cm) ((md.size : Nat) : Int)) hs rfl rfl rfl rfl (all1 rfl) (by simp)) rfl rfl rfl rfl ?_; intro _ w hs; rw [splice_all (by rfl)] at hs; refine zh ?_
            refine zd ?_
            exact MC.meetS (fr, 0, b8) zi (.inl ⟨rfl, md, .slice qm md.key.length cm, s2, hm2, hmd, hs.pickF 7 [2, 3, 1, 0, 4] rfl rfl⟩)
          · refine zh ?_
            refine zd ?_
            refine MC.doesK true (does_alloc hs) rfl rfl rfl ?_; rintro _ w ⟨b8, rfl, hs⟩; refine zh ?_
            refine zd ?_
            refine MC.doesL true (does_store (vs := mdC a2 c2 (.slice q2 n2 cc2) d2) hs rfl rfl rfl rfl (all1 rfl) (by simp)) rfl rfl rfl rfl ?_; intro _ w hs; rw [splice_all (by rfl)] at hs; refine zh ?_
            refine zd ?_
            exact MC.meetS (t2, e, b8) zi (.inr ⟨he, s2, hm2, hs.pickF 6 [1, 2] rfl rfl⟩)
        · rintro _ w ⟨b8, rfl, hs⟩
          refine zh ?_
          refine zd ?_
          have hs := hs.pickF 7 [1, 2, 3, 0, 4, 5, 6] rfl rfl
          have hins := tinsert_spec (tp := tp) (page := t.root) hh' hs inferInstance hkey.up hkl (show cell.length ≤ 255 by omega) hrt (by omega)
          rw [← eh, ← hhe] at hins
          refine MC.doesK true (does_call rfl (hins)) rfl rfl rfl ?_
          rintro _ w (⟨⟨md, fr⟩, s2, hm2, hmd, vk2, rfl, hs⟩ | ⟨e, s2, he, hm2, a2, c2, q2, n2, cc2, d2, t2, rfl, hs⟩)
          · refine zh ?_
            dsimp only [] at hmd hs
            obtain ⟨_, qm, cm, rfl, _⟩ := hs.sl_len
            refine zd ?_
            refine MC.doesL true (does_store (vs := mdC ((md.page : Nat) : Int) (pageI md.other) (.slice qm md.key.length cm) ((md.size : Nat) : Int)) hs rfl rfl rfl rfl (all1 rfl) (by simp)) rfl rfl rfl rfl ?_; intro _ w hs; rw [splice_all (by rfl)] at hs; refine zh ?_
            refine zd ?_
            exact MC.meetS (fr, 0, b8) zi (.inl ⟨rfl, md, .slice qm md.key.length cm, s2, hm2, hmd, hs.pickF 7 [1, 2, 0, 3, 4] rfl rfl⟩)
          · refine zh ?_
            refine zd ?_
            refine MC.doesL true (does_store (vs := mdC a2 c2 (.slice q2 n2 cc2) d2) hs rfl rfl rfl rfl (all1 rfl) (by simp)) rfl rfl rfl rfl ?_; intro _ w hs; rw [splice_all (by rfl)] at hs; refine zh ?_
            refine zd ?_
            exact MC.meetS (t2, e, b8) zi (.inr ⟨he, s2, hm2, hs.pickF 6 [0, 1] rfl rfl⟩)
      · rintro ⟨fr, e, b8⟩ w hI
        dsimp only [List.drop] at hI ⊢
        rcases hI with ⟨rfl, md, vm, s2, hm2, hmd, hs⟩ | ⟨he, s2, hm2, hs⟩
        · obtain ⟨_, qm, cm, rfl, _⟩ := hs.tail.tail.sl_len
          refine zz ?_
          refine MC.draw hs [0, 1, 2, 3, 4, 5, 6, 7, 8, 9] (by rfl) ?_; intro w hs
          refine zd ?_
          refine MC.doesK true (does_call rfl (truth_spec)) rfl rfl rfl ?_
          rintro _ _ ⟨rfl, rfl⟩
          refine zh ?_
          cases fr with
          | false =>
            have ecnt : ((t.count : Nat) : Int) + 0 = ((t.count + 0 : Nat) : Int) := by omega
            refine zd ?_
            refine MC.doesL true (does_store1 hs rfl rfl rfl (by simp)) rfl rfl rfl rfl ?_; intro _ w hs; refine zh ?_
            simp only [if_true, if_false, Bool.false_eq_true] at hs
            rw [ecnt] at hs
            have hs : Sat (pgr z s2 mk :: tb z tp ((t.root : Nat) : Int) ((t.height : Nat) : Int) ((t.count + 0 : Nat) : Int) :: sl (.slice qm md.key.length cm) 5 1 md.key.length (bytesV md.key) :: blk b8 (mdC ((md.page : Nat) : Int) (pageI md.other) (.slice qm md.key.length cm) ((md.size : Nat) : Int)) 71 :: blk b0 [ptr tp] 24 :: F) w := hs
            refine zz ?_
            refine MC.la true (la_loadV (vs := mdC ((md.page : Nat) : Int) (pageI md.other) (.slice qm md.key.length cm) ((md.size : Nat) : Int)) hs rfl rfl rfl rfl) rfl ?_
            refine zz ?_
            have hg := tgrow_spec (t := { t with count := t.count + 0 }) (md := md) hs hmd (by show 1 ≤ t.height; omega) (by show t.height ≤ 1000000; omega)
            refine zc rfl (hg) ?_
            rintro _ w (⟨t3, s3, hm3, h3, h4, rfl, hs⟩ | ⟨e, s3, he, hm3, rfl, a', b', c', hs⟩)
            · refine zz ?_
              refine MC.ret rfl ?_
              exact .inl ⟨t3, s3, hmod _ _ (.inr ⟨(md, false), s2, hm2, hm3⟩), h3, h4, rfl, hs.pickF 4 [0, 1] rfl rfl⟩
            · refine zz ?_
              refine MC.ret rfl ?_
              exact .inr ⟨e, s3, he, hmod _ _ (.inr ⟨(md, false), s2, hm2, hm3⟩), rfl, _, _, _, hs.pickF 4 [0, 1] rfl rfl⟩
          | true =>
            have ecnt : ((t.count : Nat) : Int) + 1 = ((t.count + 1 : Nat) : Int) := by omega
            refine zd ?_
            refine MC.doesL true (does_store1 hs rfl rfl rfl (by simp)) rfl rfl rfl rfl ?_; intro _ w hs; refine zh ?_
            simp only [if_true, if_false, Bool.false_eq_true] at hs
            rw [ecnt] at hs
            have hs : Sat (pgr z s2 mk :: tb z tp ((t.root : Nat) : Int) ((t.height : Nat) : Int) ((t.count + 1 : Nat) : Int) :: sl (.slice qm md.key.length cm) 5 1 md.key.length (bytesV md.key) :: blk b8 (mdC ((md.page : Nat) : Int) (pageI md.other) (.slice qm md.key.length cm) ((md.size : Nat) : Int)) 71 :: blk b0 [ptr tp] 24 :: F) w := hs
            refine zz ?_
            refine MC.la true (la_loadV (vs := mdC ((md.page : Nat) : Int) (pageI md.other) (.slice qm md.key.length cm) ((md.size : Nat) : Int)) hs rfl rfl rfl rfl) rfl ?_
            refine zz ?_
            have hg := tgrow_spec (t := { t with count := t.count + 1 }) (md := md) hs hmd (by show 1 ≤ t.height; omega) (by show t.height ≤ 1000000; omega)
            refine zc rfl (hg) ?_
            rintro _ w (⟨t3, s3, hm3, h3, h4, rfl, hs⟩ | ⟨e, s3, he, hm3, rfl, a', b', c', hs⟩)
            · refine zz ?_
              refine MC.ret rfl ?_
              exact .inl ⟨t3, s3, hmod _ _ (.inr ⟨(md, true), s2, hm2, hm3⟩), h3, h4, rfl, hs.pickF 4 [0, 1] rfl rfl⟩
            · refine zz ?_
              refine MC.ret rfl ?_
              exact .inr ⟨e, s3, he, hmod _ _ (.inr ⟨(md, true), s2, hm2, hm3⟩), rfl, _, _, _, hs.pickF 4 [0, 1] rfl rfl⟩
        · refine zz ?_
          refine MC.ret rfl ?_
          exact .inr ⟨e, s2, he, hmod _ _ (.inl ⟨e, hm2, rfl⟩), rfl, _, _, _, hs⟩
  · refine zz ?_
    refine MC.ret rfl ?_
    exact .inr ⟨e, s', he, .inl ⟨e, hm, rfl⟩, rfl, _, _, _, hs.pickF 5 [0, 1] rfl rfl⟩
end
section
variable {F : List Assn} {G : List Value → List Assn} {z : Pw} {s : St} {mk : Option (Nat × St)} {w : World} {tp : Nat} {r h c : Value}
end
section
variable {F : List Assn} {z : Pw} {s : St} {mk : Option (Nat × St)} {w : World} {tp : Nat}
theorem pgr_forget {x : Nat × St} (hs : Sat (pgr z s (some x) :: F) w) : Sat (pgr z s none :: F) w := by
  obtain ⟨g, hg, hz, hs⟩ := pgr_open hs
  have hs := hs.pickF 7 [0, 1, 2, 3, 4, 5] rfl rfl
  have hs : Sat (star [] :: _) w := Sat.restar (l := []) hs
  exact pgr_shut (g := g) ⟨hg.x, trivial⟩ hz (hs.pickF 7 [1, 2, 3, 4, 5, 6, 0] rfl rfl)
abbrev chB (z : Pw) (tp b4 b6 b2 b5 m : Nat) (e r h n : Int) (F : List Assn) : List Assn :=
  blk b4 [int e] 34 :: blk b6 [ptr z.p, int r, int h, int n] 63 :: blk b2 [ptr tp] 24 :: blk b5 [ptr m] 107 :: F
theorem undo_spec {b4 b6 b2 b5 m : Nat} {e a b c r h n : Int} {s0 : St} (hs : Sat (pgr z s (some (m, s0)) :: tb z tp a b c :: chB z tp b4 b6 b2 b5 m e r h n F) w) :
    RetD Tryz.prog 50 [ptr b4, ptr b6, ptr b2, ptr b5] w fun w' => if e = 0 then Sat (pgr z s (some (m, s0)) :: tb z tp a b c :: chB z tp b4 b6 b2 b5 m e r h n F) w' else Sat (pgr z s0 (some (m, s0)) :: tb z tp r h n :: chB z tp b4 b6 b2 b5 m e r h n F) w' := by
  refine RetD.enter [(true, ptr b4), (true, ptr b6), (true, ptr b2), (true, ptr b5)] _ Tryz.func50 rfl Tryz.ntmps50 rfl ?_
  by_cases he : e = 0
  · refine zz ?_
    refine MC.end_ rfl ?_
    show if e = 0 then _ else _
    rw [if_pos he]
    exact hs
  · refine zz ?_
    refine MC.la true (la_loadV (vs := [ptr z.p, int r, int h, int n]) hs rfl rfl rfl rfl) rfl ?_
    refine zz ?_
    refine MC.does true (does_store (vs := [ptr z.p, int r, int h, int n]) hs rfl rfl rfl rfl (all1 rfl) (by simp)) rfl ?_; intro _ w hs; rw [splice_all (by rfl)] at hs
    refine zz ?_
    refine MC.draw hs [0, 1, 2, 3, 4, 5] (by rfl) ?_; intro w hs
    refine zd ?_
    refine MC.doesK true (does_call rfl (back_spec hs)) rfl rfl rfl ?_
    rintro _ w ⟨rfl, hs⟩
    refine zh ?_
    refine zz ?_
    refine MC.end_ rfl ?_
    show if e = 0 then _ else _
    rw [if_neg he]
    exact hs
theorem change_spec {f : FuncId} [Fun Tryz.prog f] {cap : List Value} {r h n : Int} {F0 : List Assn} {KO : St → Int → Int → Int → List Assn → Prop} {KE : List Assn → Prop} (hs : Sat (pgr z s none :: tb z tp r h n :: F0) w)
    (hin : ∀ (m b4 b6 b2 b5 : Nat) (w1 : World), Sat (pgr z s (some (m, s)) :: tb z tp r h n :: chB z tp b4 b6 b2 b5 m 0 r h n F0) w1 → Ret Tryz.prog f cap w1 fun v w' =>
      (∃ s' a b c F', KO s' a b c F' ∧ v = int 0 ∧ Sat (pgr z s' (some (m, s)) :: tb z tp a b c :: chB z tp b4 b6 b2 b5 m 0 r h n F') w') ∨
      (∃ (e : Int) (s' : St) (a b c : Int) (F' : List Assn), KE F' ∧ e ≠ 0 ∧ v = int e ∧ Sat (pgr z s' (some (m, s)) :: tb z tp a b c :: chB z tp b4 b6 b2 b5 m 0 r h n F') w')) :
    Ret Tryz.prog 18 [ptr tp, .func (.func f) #[] cap.toArray] w fun v w' =>
      (∃ s' a b c F', KO s' a b c F' ∧ v = int 0 ∧ Sat (pgr z s' none :: tb z tp a b c :: F') w') ∨
      (∃ (e : Int) (F' : List Assn), KE F' ∧ e ≠ 0 ∧ v = int e ∧ Sat (pgr z s none :: tb z tp r h n :: F') w') := by
  refine Ret.enterM [(true, ptr tp), (true, .func (.func f) #[] cap.toArray)] _ Tryz.func18 rfl Tryz.ntmps18 rfl ?_
  refine zz ?_
  refine MC.does true (does_box hs rfl rfl) rfl ?_; rintro _ w ⟨b2, rfl, hs⟩
  refine zz ?_
  refine MC.does true (does_alloc hs) rfl ?_; rintro _ w ⟨b4, rfl, hs⟩
  refine zz ?_
  have hs := hs.pickF 4 [2, 3, 0, 1] rfl rfl
  refine MC.cutAtS 1 (σ := Nat × Nat) (fun x => [(1, true, .func (.func f) #[] cap.toArray), (2, true, ptr b2), (4, true, ptr b4), (5, true, ptr x.1), (6, true, ptr x.2)]) (fun x w => ∃ m, Sat (pgr z s (some (m, s)) :: tb z tp r h n :: chB z tp b4 x.2 b2 x.1 m 0 r h n F0) w) rfl ?_ ?_
  rotate_left
  · refine MC.draw hs [0, 1, 2, 3, 5, 6, 7, 4, 8, 9, 10, 11] (by rfl) ?_; intro w hs
    refine zd ?_
    refine MC.laD true (la_loadV (vs := [ptr z.p, int r, int h, int n]) hs rfl rfl rfl rfl) rfl ?_
    refine zd ?_
    refine MC.fork3 8 [4, 9, 10, 11] 9 [4, 8, 10, 11] rfl rfl rfl (does_call rfl (mark_spec hs)) (does_alloc hs) (does_alloc hs) ?_ ?_ ?_
    · rintro _ w ⟨m, rfl, hs⟩; refine zh ?_
      refine zd ?_
      refine MC.fork 9 [8, 10, 11] rfl rfl (does_alloc hs) (does_alloc hs) ?_ ?_
      · rintro _ w ⟨b5, rfl, hs⟩; refine zh ?_
        refine zd ?_
        refine MC.doesK true (does_alloc hs) rfl rfl rfl ?_; rintro _ w ⟨b6, rfl, hs⟩; refine zh ?_
        refine zd ?_
        refine MC.doesL true (does_store1 hs rfl rfl rfl (by simp)) rfl rfl rfl rfl ?_; intro _ w hs; refine zh ?_
        refine zd ?_
        refine MC.doesL true (does_store (vs := [ptr z.p, int r, int h, int n]) hs rfl rfl rfl rfl (all1 rfl) (by simp)) rfl rfl rfl rfl ?_; intro _ w hs; rw [splice_all (by rfl)] at hs; refine zh ?_
        refine zd ?_
        exact MC.meetS (b5, b6) zi ⟨m, hs.pickF 6 [2, 3, 4, 0, 5, 1] rfl rfl⟩
      · rintro _ w ⟨b6, rfl, hs⟩; refine zh ?_
        refine zd ?_
        refine MC.doesK true (does_alloc hs) rfl rfl rfl ?_; rintro _ w ⟨b5, rfl, hs⟩; refine zh ?_
        refine zd ?_
        refine MC.doesL true (does_store1 hs rfl rfl rfl (by simp)) rfl rfl rfl rfl ?_; intro _ w hs; refine zh ?_
        refine zd ?_
        refine MC.doesL true (does_store (vs := [ptr z.p, int r, int h, int n]) hs rfl rfl rfl rfl (all1 rfl) (by simp)) rfl rfl rfl rfl ?_; intro _ w hs; rw [splice_all (by rfl)] at hs; refine zh ?_
        refine zd ?_
        exact MC.meetS (b5, b6) zi ⟨m, hs.pickF 6 [2, 3, 4, 1, 5, 0] rfl rfl⟩
    · rintro _ w ⟨b5, rfl, hs⟩; refine zh ?_
      refine zd ?_
      have hs := hs.pickF 5 [1, 0, 2, 3, 4] rfl rfl
      refine MC.fork 9 [4, 10, 11] rfl rfl (does_call rfl (mark_spec hs)) (does_alloc hs) ?_ ?_
      · rintro _ w ⟨m, rfl, hs⟩; refine zh ?_
        refine zd ?_
        refine MC.doesK true (does_alloc hs) rfl rfl rfl ?_; rintro _ w ⟨b6, rfl, hs⟩; refine zh ?_
        refine zd ?_
        refine MC.doesL true (does_store1 hs rfl rfl rfl (by simp)) rfl rfl rfl rfl ?_; intro _ w hs; refine zh ?_
        refine zd ?_
        refine MC.doesL true (does_store (vs := [ptr z.p, int r, int h, int n]) hs rfl rfl rfl rfl (all1 rfl) (by simp)) rfl rfl rfl rfl ?_; intro _ w hs; rw [splice_all (by rfl)] at hs; refine zh ?_
        refine zd ?_
        exact MC.meetS (b5, b6) zi ⟨m, hs.pickF 6 [1, 3, 4, 0, 5, 2] rfl rfl⟩
      · rintro _ w ⟨b6, rfl, hs⟩; refine zh ?_
        refine zd ?_
        have hs := hs.pickF 6 [1, 0, 2, 3, 4, 5] rfl rfl
        refine MC.doesK true (does_call rfl (mark_spec hs)) rfl rfl rfl ?_; rintro _ w ⟨m, rfl, hs⟩; refine zh ?_
        refine zd ?_
        refine MC.doesL true (does_store1 hs rfl rfl rfl (by simp)) rfl rfl rfl rfl ?_; intro _ w hs; refine zh ?_
        refine zd ?_
        refine MC.doesL true (does_store (vs := [ptr z.p, int r, int h, int n]) hs rfl rfl rfl rfl (all1 rfl) (by simp)) rfl rfl rfl rfl ?_; intro _ w hs; rw [splice_all (by rfl)] at hs; refine zh ?_
        refine zd ?_
        exact MC.meetS (b5, b6) zi ⟨m, hs.pickF 6 [0, 3, 4, 1, 5, 2] rfl rfl⟩
    · rintro _ w ⟨b6, rfl, hs⟩; refine zh ?_
      refine zd ?_
      have hs := hs.pickF 5 [1, 0, 2, 3, 4] rfl rfl
      refine MC.fork 8 [4, 10, 11] rfl rfl (does_call rfl (mark_spec hs)) (does_alloc hs) ?_ ?_
      · rintro _ w ⟨m, rfl, hs⟩; refine zh ?_
        refine zd ?_
        refine MC.doesK true (does_alloc hs) rfl rfl rfl ?_; rintro _ w ⟨b5, rfl, hs⟩; refine zh ?_
        refine zd ?_
        refine MC.doesL true (does_store1 hs rfl rfl rfl (by simp)) rfl rfl rfl rfl ?_; intro _ w hs; refine zh ?_
        refine zd ?_
        refine MC.doesL true (does_store (vs := [ptr z.p, int r, int h, int n]) hs rfl rfl rfl rfl (all1 rfl) (by simp)) rfl rfl rfl rfl ?_; intro _ w hs; rw [splice_all (by rfl)] at hs; refine zh ?_
        refine zd ?_
        exact MC.meetS (b5, b6) zi ⟨m, hs.pickF 6 [1, 3, 4, 2, 5, 0] rfl rfl⟩
      · rintro _ w ⟨b5, rfl, hs⟩; refine zh ?_
        refine zd ?_
        have hs := hs.pickF 6 [1, 0, 2, 3, 4, 5] rfl rfl
        refine MC.doesK true (does_call rfl (mark_spec hs)) rfl rfl rfl ?_; rintro _ w ⟨m, rfl, hs⟩; refine zh ?_
        refine zd ?_
        refine MC.doesL true (does_store1 hs rfl rfl rfl (by simp)) rfl rfl rfl rfl ?_; intro _ w hs; refine zh ?_
        refine zd ?_
        refine MC.doesL true (does_store (vs := [ptr z.p, int r, int h, int n]) hs rfl rfl rfl rfl (all1 rfl) (by simp)) rfl rfl rfl rfl ?_; intro _ w hs; rw [splice_all (by rfl)] at hs; refine zh ?_
        refine zd ?_
        exact MC.meetS (b5, b6) zi ⟨m, hs.pickF 6 [0, 3, 4, 2, 5, 1] rfl rfl⟩
  · rintro ⟨b5, b6⟩ w ⟨m, hs⟩
    dsimp only [List.drop] at hs ⊢
    refine zz ?_
    refine MC.pure (f := true) (po_makeFunc rfl rfl) rfl ?_
    refine MC.defer (f := 50) (first := []) (cap := [ptr b4, ptr b6, ptr b2, ptr b5]) (vs := []) rfl rfl rfl ?_
    refine zz ?_
    refine MC.does true (does_callv (f := f) (first := []) (capt := cap) (vs := []) rfl rfl (hin m b4 b6 b2 b5 w hs)) rfl ?_
    rintro v w (⟨s', a, b, c', F', hk, rfl, hs⟩ | ⟨e, s', a, b, c', F', hk, he, rfl, hs⟩)
    · refine zz ?_
      refine MC.does true (does_store1 hs rfl rfl rfl (by first | decide | (simp; done) | (simp; omega))) rfl ?_; intro _ w hs
      refine zz ?_
      refine MC.retD (args := ([] : List Value) ++ []) (cap := [ptr b4, ptr b6, ptr b2, ptr b5]) (undo_spec (e := 0) hs) ?_
      rintro w' hq a0 hf'
      rw [if_pos rfl] at hq
      exact ⟨_, run_results_cell (vs := [int 0]) hf' rfl hq rfl rfl rfl rfl, .inl ⟨s', a, b, c', F', hk, rfl, pgr_forget (hq.pickF 6 [0, 1] rfl rfl)⟩⟩
    · refine zz ?_
      refine MC.does true (does_store1 hs rfl rfl rfl (by first | decide | (simp; done) | (simp; omega))) rfl ?_; intro _ w hs
      refine zz ?_
      refine MC.retD (args := ([] : List Value) ++ []) (cap := [ptr b4, ptr b6, ptr b2, ptr b5]) (undo_spec (e := e) hs) ?_
      rintro w' hq a0 hf'
      rw [if_neg he] at hq
      exact ⟨_, run_results_cell (vs := [int e]) hf' rfl hq rfl rfl rfl rfl, .inr ⟨e, F', hk, he, rfl, pgr_forget (hq.pickF 6 [0, 1] rfl rfl)⟩⟩
theorem tnone_spec {a b c : Value} (hs : Sat F w) {G : List Value → List Assn} [hA : At F tp [ptr z.p, a, b, c] 63 G] : Ret Tryz.prog 31 [ptr tp] w fun v w' => v = bool false ∧ w' = w := by
  refine Ret.enter [(true, ptr tp)] _ Tryz.func31 rfl Tryz.ntmps31 rfl ?_
  refine zz ?_
  refine MC.ret rfl ?_
  exact ⟨rfl, rfl⟩
theorem fits_spec {a b c : Value} {vk : Value} {key : Bs} (hs : Sat F w) {G : List Value → List Assn} [hA : At F tp [ptr z.p, a, b, c] 63 G] (hkey : RdS F 1 vk key.length (bytesV key)) : Ret Tryz.prog 17 [ptr tp, vk] w fun v w' => v = int (if 1 ≤ key.length ∧ key.length ≤ 64 then 0 else 2) ∧ w' = w := by
  obtain ⟨q, cc, rfl, _, _⟩ := hkey.shape
  have hn := tnone_spec (tp := tp) (z := z) hs
  refine Ret.enter [(true, ptr tp), (true, .slice q key.length cc)] _ Tryz.func17 rfl Tryz.ntmps17 rfl ?_
  refine zz ?_
  refine zc rfl (hn) ?_
  rintro _ _ ⟨rfl, rfl⟩
  refine zz ?_
  by_cases h0 : key.length < 1
  · rw [if_neg (by omega)]
    refine zz ?_
    refine MC.ret rfl ?_
    exact ⟨rfl, rfl⟩
  · by_cases h1 : 64 < key.length
    · rw [if_neg (by omega)]
      refine zz ?_
      refine MC.ret rfl ?_
      exact ⟨rfl, rfl⟩
    · rw [if_pos (by omega)]
      refine zz ?_
      refine MC.ret rfl ?_
      exact ⟨rfl, rfl⟩
def rootI (t : T) : Int := if t.height = 0 then -1 else ((t.root : Nat) : Int)
end
def Deep (E : En) (s : St) : Nat → Nat → Prop
  | 0, _ => True
  | h + 1, page => ∀ n s', levelM E page false s (.ok n) s' → 1 ≤ n.keys.length ∧ ∀ k ∈ n.kids, Deep E s h k
section
variable {mk : Option (Nat × St)} {z : Pw} {tp : Nat} {r h c : Value}
end
section
variable {F : List Assn} {z : Pw} {s : St} {mk : Option (Nat × St)} {w : World} {tp : Nat}
abbrev tbT (z : Pw) (tp : Nat) (t : T) : Assn := tb z tp (rootI t) ((t.height : Nat) : Int) ((t.count : Nat) : Int)
structure Fit (E : En) (s : St) (t : T) (key : Bs) : Prop where
  deep : ∀ h, t.height = h + 1 → Deep E s h t.root
  one : ∀ x s1, 1 ≤ t.height → removeM E t.height t.root key s (.ok x) s1 → x.2 = true → 1 ≤ t.count
  leaf : ∀ x s1 t2 s2, 1 ≤ t.height → removeM E t.height t.root key s (.ok x) s1 → x.2 = true → growM E { t with count := t.count - 1 } x.1 s1 (.ok t2) s2 → ∀ n s', nodeM E t2.root s2 (.ok n) s' → n.leaf = decide (t2.height = 1)
end
section
variable {F : List Assn} {z : Pw} {s : St} {mk : Option (Nat × St)} {w : World} {tp : Nat}
theorem tNew_spec (hs : Sat (pgr z s none :: F) w) : Ret Tryz.prog 14 [ptr z.p] w fun v w' => ∃ tp, v = .tuple #[ptr tp, int 0] ∧ Sat (pgr z s none :: tb z tp (-1) 0 0 :: F) w' := by
  have hm := mark_spec hs
  refine Ret.enter [(true, ptr z.p)] _ Tryz.func14 rfl Tryz.ntmps14 rfl ?_
  refine zz ?_
  refine zc rfl (hm) ?_
  rintro _ w ⟨m, rfl, hs⟩
  refine zz ?_
  refine MC.pure (f := true) (po_build (ls := [(0, [ptr z.p]), (1, [int (-1)])]) (out := [ptr z.p, int (-1), int 0, int 0]) rfl rfl ⟨⟨_, rfl, by simp⟩, ⟨_, rfl, by simp⟩, trivial⟩ rfl) rfl ?_
  refine zz ?_
  refine MC.does true (does_box hs rfl rfl) rfl ?_; rintro _ w ⟨tp, rfl, hs⟩
  refine zz ?_
  refine MC.ret rfl ?_
  exact ⟨tp, rfl, pgr_forget hs.swap⟩
theorem tOpen_spec {t : T} (hs : Sat (pgr z s none :: F) w) (h0 : t.height = 0 → t.count = 0) (h1 : 1 ≤ t.height → 1 ≤ t.count) (hh : t.height ≤ 100000) (hrt : t.root ≤ 100000) (hct : t.count ≤ 1000000000) :
    Ret Tryz.prog 64 [ptr z.p, int (rootI t), int ((t.height : Nat) : Int), int ((t.count : Nat) : Int)] w fun v w' => ∃ tp, v = .tuple #[ptr tp, int 0] ∧ Sat (pgr z s none :: tbT z tp t :: F) w' := by
  have hm := mark_spec hs
  by_cases hz : t.height = 0
  · have h0 := h0 hz
    have hR : rootI t = -1 := by unfold rootI; rw [if_pos hz]
    unfold tbT
    rw [hR, hz, h0]
    refine Ret.enter [(true, ptr z.p), (true, int (-1)), (true, int ((0 : Nat) : Int)), (true, int ((0 : Nat) : Int))] _ Tryz.func64 rfl Tryz.ntmps64 rfl ?_
    refine zz ?_
    refine zc rfl (hm) ?_
    rintro _ w ⟨m, rfl, hs⟩
    refine zz ?_
    refine MC.splitB (t := 28) rfl (fun h => absurd h (by simp)) (fun _ => ?_)
    refine zz ?_
    refine MC.pure (f := true) (po_build (ls := [(0, [ptr z.p]), (1, [int (-1)]), (2, [int ((0 : Nat) : Int)]), (3, [int ((0 : Nat) : Int)])]) (out := [ptr z.p, int (-1), int ((0 : Nat) : Int), int ((0 : Nat) : Int)]) rfl rfl ⟨⟨_, rfl, by simp⟩, ⟨_, rfl, by simp⟩, ⟨_, rfl, by simp⟩, ⟨_, rfl, by simp⟩, trivial⟩ rfl) rfl ?_
    refine zz ?_
    refine MC.does true (does_box hs rfl rfl) rfl ?_; rintro _ w ⟨tp, rfl, hs⟩
    refine zz ?_
    refine MC.ret rfl ?_
    exact ⟨tp, rfl, pgr_forget hs.swap⟩
  · have h1 := h1 (by omega)
    have hR : rootI t = ((t.root : Nat) : Int) := by unfold rootI; rw [if_neg hz]
    unfold tbT
    rw [hR]
    refine Ret.enter [(true, ptr z.p), (true, int ((t.root : Nat) : Int)), (true, int ((t.height : Nat) : Int)), (true, int ((t.count : Nat) : Int))] _ Tryz.func64 rfl Tryz.ntmps64 rfl ?_
    refine zz ?_
    refine zc rfl (hm) ?_
    rintro _ w ⟨m, rfl, hs⟩
    refine zz ?_
    refine MC.pure (f := true) (po_build (ls := [(0, [ptr z.p]), (1, [int ((t.root : Nat) : Int)]), (2, [int ((t.height : Nat) : Int)]), (3, [int ((t.count : Nat) : Int)])]) (out := [ptr z.p, int ((t.root : Nat) : Int), int ((t.height : Nat) : Int), int ((t.count : Nat) : Int)]) rfl rfl ⟨⟨_, rfl, by simp⟩, ⟨_, rfl, by simp⟩, ⟨_, rfl, by simp⟩, ⟨_, rfl, by simp⟩, trivial⟩ rfl) rfl ?_
    refine zz ?_
    refine MC.does true (does_box hs rfl rfl) rfl ?_; rintro _ w ⟨tp, rfl, hs⟩
    refine zz ?_
    refine MC.ret rfl ?_
    exact ⟨tp, rfl, pgr_forget hs.swap⟩
theorem tRoot_spec {a b c : Int} (hs : Sat (pgr z s mk :: tb z tp a b c :: F) w) : Ret Tryz.prog 28 [ptr tp] w fun v w' => v = int a ∧ w' = w := by
  have hn := tnone_spec (tp := tp) (z := z) hs
  refine Ret.enter [(true, ptr tp)] _ Tryz.func28 rfl Tryz.ntmps28 rfl ?_
  refine zz ?_
  refine zc rfl (hn) ?_
  rintro _ _ ⟨rfl, rfl⟩
  refine zz ?_
  refine MC.ret rfl ?_
  exact ⟨rfl, rfl⟩
theorem tHeight_spec {a b c : Int} (hs : Sat (pgr z s mk :: tb z tp a b c :: F) w) : Ret Tryz.prog 26 [ptr tp] w fun v w' => v = int b ∧ w' = w := by
  have hn := tnone_spec (tp := tp) (z := z) hs
  refine Ret.enter [(true, ptr tp)] _ Tryz.func26 rfl Tryz.ntmps26 rfl ?_
  refine zz ?_
  refine zc rfl (hn) ?_
  rintro _ _ ⟨rfl, rfl⟩
  refine zz ?_
  refine MC.ret rfl ?_
  exact ⟨rfl, rfl⟩
theorem tCount_spec {a b c : Int} (hs : Sat (pgr z s mk :: tb z tp a b c :: F) w) : Ret Tryz.prog 9 [ptr tp] w fun v w' => v = int c ∧ w' = w := by
  have hn := tnone_spec (tp := tp) (z := z) hs
  refine Ret.enter [(true, ptr tp)] _ Tryz.func9 rfl Tryz.ntmps9 rfl ?_
  refine zz ?_
  refine zc rfl (hn) ?_
  rintro _ _ ⟨rfl, rfl⟩
  refine zz ?_
  refine MC.ret rfl ?_
  exact ⟨rfl, rfl⟩
end
end Go.Proofs.YtkccjgllanpebaaGreatDoor

namespace Go.Proofs.YtkccjgllanpebaaGreatDoor
open Go Go.Sl Go.Tr Go.Pa
attribute [local irreducible] LooksAt
section
variable {F : List Assn} {w : World} {z : Pw} {s : St} {mk : Option (Nat × St)} {KK : List Nat} {tp : Nat}
theorem tget_nil {t : T} (hs : Sat (pgr z s mk :: tbT z tp t :: F) w) : Ret Tryz.prog 65 [ptr tp, .slice none 0 0] w fun v w' => v = .tuple #[.slice none 0 0, bool false, int 2] ∧ w' = w := by
  have hf := fits_spec (tp := tp) (z := z) (key := []) hs (RdS.nil _ _)
  rw [if_neg (by simp)] at hf
  refine Ret.enter [(true, ptr tp), (true, .slice none 0 0)] _ Tryz.func65 rfl Tryz.ntmps65 rfl ?_
  refine zz ?_
  refine zc rfl (hf) ?_
  rintro _ _ ⟨rfl, rfl⟩
  refine zz ?_
  refine MC.ret rfl ?_
  exact ⟨rfl, rfl⟩
theorem bready_spec {t : T} (hs : Sat (pgr z s none :: tbT z tp t :: F) w) (h0 : t.height = 0 → t.count = 0) (h1 : 1 ≤ t.height → 1 ≤ t.count) (hh : t.height ≤ 100000) (hrt : t.root ≤ 100000) (hct : t.count ≤ 1000000000) :
    Ret Tryz.prog 25 [ptr z.p, ptr tp] w fun v w' => v = int 0 ∧ Sat (pgr z s none :: tbT z tp t :: F) w' := by
  refine Ret.enter [(true, ptr z.p), (true, ptr tp)] _ Tryz.func25 rfl Tryz.ntmps25 rfl ?_
  refine zz ?_
  refine zc rfl (mark_spec hs) ?_
  rintro _ w ⟨m, rfl, hs⟩
  have hs := pgr_forget hs
  refine zz ?_
  refine zc rfl (tRoot_spec hs) ?_
  rintro _ _ ⟨rfl, rfl⟩
  refine zz ?_
  refine zc rfl (tHeight_spec hs) ?_
  rintro _ _ ⟨rfl, rfl⟩
  refine zz ?_
  refine zc rfl (tCount_spec hs) ?_
  rintro _ _ ⟨rfl, rfl⟩
  refine zz ?_
  refine zc rfl (tOpen_spec hs h0 h1 hh hrt hct) ?_
  rintro _ w ⟨tp2, rfl, hs⟩
  have hs := hs.pickF 3 [0, 2] rfl rfl
  refine zz ?_
  refine zc rfl (tget_nil hs) ?_
  rintro _ _ ⟨rfl, rfl⟩
  refine zz ?_
  refine MC.ret rfl ?_
  exact ⟨rfl, hs⟩
set_option maxHeartbeats 4000000 in
theorem range_spec {t : T} {l : List (Bs × Bs)} {X : List PA} (hd : z.E.down = false) (hs : Sat (pgr z s none :: tbT z tp t :: F) w) (hl : Holds t l) (a : PS z.E KK (trT t l :: X) s) (hv : ∀ x ∈ l, x.2.length ≤ 15) (hn : l.length ≤ 40) (hh : t.height ≤ 6) (hrt : t.root ≤ 100000) :
    Ret Tryz.prog 8 [ptr z.p, ptr tp, .slice none 0 0, .slice none 0 0, int 100] w fun v w' => ∃ (q : Option Addr) (c : Nat) (G : List Assn) (rows : List (List Value)), v = .tuple #[.slice q l.length c, int 0] ∧ PL G (keysL l) rows ∧
      Sat (pgr z s none :: tbT z tp t :: sl (.slice q l.length c) 48 2 l.length rows.flatten :: (G ++ F)) w' := by
  have hcnt := hl.cnt
  have h00 : t.height = 0 → l = [] := fun h => ((trT_zero h).1 a).1
  have h11 : ∀ h, t.height = h + 1 → 1 ≤ l.length := fun h h5 => by
    have h1 := full_len h ((trT_succ h5).1 a)
    have h2 := Nat.two_pow_pos h
    omega
  have hrd := fun (w : World) (F : List Assn) (hs : Sat (pgr z s none :: tbT z tp t :: F) w) => bready_spec hs (fun h => by rw [hcnt, h00 h]; rfl) (fun h => by have := h11 (t.height - 1) (by omega); omega) (by omega) hrt (by omega)
  refine Ret.enter [(true, ptr z.p), (true, ptr tp), (true, .slice none 0 0), (true, .slice none 0 0), (true, int 100)] _ Tryz.func8 rfl Tryz.ntmps8 rfl ?_
  refine zz ?_
  refine MC.does true (does_box hs rfl rfl) rfl ?_; rintro _ w ⟨b5, rfl, hs⟩
  refine zz ?_
  refine MC.does true (does_box hs rfl rfl) rfl ?_; rintro _ w ⟨b9, rfl, hs⟩
  refine zz ?_
  have hs := hs.pickF 4 [2, 3, 1, 0] rfl rfl
  have hc := hrd _ _ hs
  refine zc rfl (hc) ?_
  rintro _ w ⟨rfl, hs⟩
  refine zz ?_
  refine MC.does true (does_alloc hs) rfl ?_; rintro _ w ⟨b13, rfl, hs⟩
  refine zz ?_
  have hs := hs.pickF 5 [1, 2, 0, 3, 4] rfl rfl
  refine zc rfl (tHeight_spec hs) ?_
  rintro _ _ ⟨rfl, rfl⟩
  rcases Nat.eq_zero_or_pos t.height with hz | hz
  · obtain rfl := h00 hz
    refine zz ?_
    refine MC.ret rfl ?_
    refine ⟨none, 0, [], [], rfl, PL.nil _, ?_⟩
    exact (hs.sl_nil 48 2).pickF 6 [1, 2, 0] rfl rfl
  · obtain ⟨h, h5⟩ : ∃ h, t.height = h + 1 := ⟨t.height - 1, by omega⟩
    have hroot : rootI t = ((t.root : Nat) : Int) := by unfold rootI; rw [if_neg (by omega)]
    have a' := (trT_succ h5).1 a
    refine zz ?_
    refine MC.draw hs [0, 1, 3, 5, 6, 7, 2, 4, 8, 9, 10, 11, 12, 13] (by rfl) ?_; intro w hs
    refine zd ?_
    refine MC.pure (f := true) (po_makeFunc rfl rfl) rfl ?_
    refine zd ?_
    refine MC.doesK true (does_call rfl (tRoot_spec hs)) rfl rfl rfl ?_
    rintro _ _ ⟨rfl, rfl⟩; refine zh ?_
    refine zd ?_
    refine MC.doesK true (does_call rfl (tHeight_spec hs)) rfl rfl rfl ?_
    rintro _ _ ⟨rfl, rfl⟩; refine zh ?_
    refine zd ?_
    have hs := (hs.sl_nil 48 2).pickF 6 [1, 3, 0, 4, 5, 2] rfl rfl
    have hw := walk_spec (n := 0) hd h a' hv (by omega) hs
    rw [hroot, h5]
    refine MC.doesK true (does_call rfl hw) rfl rfl rfl ?_
    rintro _ w ⟨q, c, G, rows, rfl, hPL, hs⟩; refine zh ?_
    refine zd ?_
    refine zz ?_
    refine MC.ret rfl ?_
    rw [Nat.zero_add, List.nil_append] at hs
    refine ⟨q, c, G, rows, by rw [Nat.zero_add]; rfl, hPL, ?_⟩
    have hs := hs.pickF 5 [0, 2] rfl rfl
    exact Sat.perm (((List.perm_middle (a := tbT z tp t) (l₁ := G) (l₂ := F)).append_left [_, _]).trans (List.Perm.cons _ (List.Perm.swap _ _ _))) hs
end
end Go.Proofs.YtkccjgllanpebaaGreatDoor

namespace Go.Proofs.YtkccjgllanpebaaGreatDoor
open Go Go.Sl Go.Tr
attribute [local irreducible] LooksAt
section
variable {F : List Assn} {z : Pw} {s : St} {w : World} {tp : Nat}
theorem tPutE_spec {t : T} {key value : Bs} {vk vv : Value} (hs : Sat (pgr z s none :: tb z tp (rootI t) ((t.height : Nat) : Int) ((t.count : Nat) : Int) :: F) w)
    (hkey : RdS F 1 vk key.length (bytesV key)) (hval : RdS F 1 vv value.length (bytesV value)) (hkl : 1 ≤ key.length ∧ key.length ≤ 64) (hvl : value.length ≤ 16384) (hrt : t.root ≤ 100000) (hh : t.height ≤ 100000) (hct : t.count ≤ 1000000000) :
    Ret Tryz.prog 7 [ptr tp, vk, vv] w fun v w' =>
      (∃ t' s', putT z.E t key value s (.ok t') s' ∧ 1 ≤ key.length ∧ key.length ≤ 64 ∧ 1 ≤ t'.height ∧ v = int 0 ∧ Sat (pgr z s' none :: tb z tp (rootI t') ((t'.height : Nat) : Int) ((t'.count : Nat) : Int) :: F) w') ∨
      (∃ e : Int, e ≠ 0 ∧ v = int e ∧ (∃ e' s', putT z.E t key value s (.err e') s') ∧ Sat (pgr z s none :: tb z tp (rootI t) ((t.height : Nat) : Int) ((t.count : Nat) : Int) :: F) w') := by
  obtain ⟨qk, ck, rfl, _, _⟩ := hkey.shape
  obtain ⟨qv, cv, rfl, _, _⟩ := hval.shape
  refine Ret.enter [(true, ptr tp), (true, .slice qk key.length ck), (true, .slice qv value.length cv)] _ Tryz.func7 rfl Tryz.ntmps7 rfl ?_
  refine zz ?_
  refine MC.does true (does_box hs rfl rfl) rfl ?_; rintro _ w ⟨b0, rfl, hs⟩
  refine zz ?_
  refine MC.does true (does_box hs rfl rfl) rfl ?_; rintro _ w ⟨b2, rfl, hs⟩
  refine zz ?_
  refine MC.does true (does_box hs rfl rfl) rfl ?_; rintro _ w ⟨b1, rfl, hs⟩
  refine zz ?_
  have hf := fits_spec (tp := tp) (z := z) hs hkey.up
  refine zc rfl (hf) ?_
  rintro _ _ ⟨rfl, rfl⟩
  rw [if_pos hkl]
  refine zz ?_
  refine MC.pure (f := true) (po_makeFunc rfl rfl) rfl ?_
  refine zz ?_
  have hs := hs.pickF 5 [3, 4, 2, 0, 1] rfl rfl
  have hc := change_spec (f := 19) (cap := [ptr b0, ptr b1, ptr b2]) (KO := fun s' a b c F' => ∃ t', putT z.E t key value s (.ok t') s' ∧ 1 ≤ t'.height ∧ a = ((t'.root : Nat) : Int) ∧ b = ((t'.height : Nat) : Int) ∧ c = ((t'.count : Nat) : Int) ∧ F' = F) (KE := fun F' => F' = F ∧ ∃ e' s', putT z.E t key value s (.err e') s') hs (fun m b4 b6 b7 b8 w1 hs1 => by
    have hs1 := hs1.pickF 9 [0, 1, 6, 7, 8, 2, 3, 4, 5] rfl rfl
    refine (tput1_spec hs1 (fun h => by unfold rootI; rw [if_neg (by omega)]) hkey.up (by omega) hval.up (by omega) hrt hh hct).mono ?_
    rintro v w' (⟨t', s', hm, h1, h2, rfl, hs⟩ | ⟨e, s', he, hm, rfl, a, b, c, hs⟩)
    · exact .inl ⟨s', _, _, _, F, ⟨t', hm, h1, rfl, rfl, rfl, rfl⟩, rfl, hs⟩
    · exact .inr ⟨e, s', a, b, c, F, ⟨rfl, e, s', hm⟩, he, rfl, hs⟩)
  refine zc rfl (hc) ?_
  rintro _ w (⟨s', a, b, c, F', ⟨t', hm, h1, rfl, rfl, rfl, rfl⟩, rfl, hs⟩ | ⟨e, F', ⟨rfl, hm⟩, he, rfl, hs⟩)
  · refine zz ?_
    refine MC.ret rfl ?_
    refine .inl ⟨t', s', hm, hkl.1, hkl.2, h1, rfl, ?_⟩
    unfold rootI
    rw [if_neg (by omega)]
    exact hs
  · refine zz ?_
    refine MC.ret rfl ?_
    exact .inr ⟨e, he, rfl, hm, hs⟩
end
end Go.Proofs.YtkccjgllanpebaaGreatDoor
