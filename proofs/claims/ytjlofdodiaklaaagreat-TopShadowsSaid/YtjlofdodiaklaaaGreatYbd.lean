/-
  Trees: truth, grow; Put's inner function
-/
import Derived.Test.YtjlofdodiaklaaaGreatYbc
set_option maxHeartbeats 1000000
set_option linter.unusedVariables false
set_option linter.unusedSimpArgs false
namespace Go.Proofs.YtjlofdodiaklaaaGreat
open Go Go.Sl Go.Tr
attribute [local irreducible] LooksAt

section
variable {F : List Assn} {z : Pw} {s : St} {mk : Option (Nat × St)} {w : World} {tp : Nat}
abbrev tb (z : Pw) (tp : Nat) (a b c : Int) : Assn := blk tp [ptr z.p, int a, int b, int c] 89
def OutT (m : M T) (z : Pw) (s : St) (mk : Option (Nat × St)) (tp : Nat) (F : List Assn) : Value → World → Prop := Out m s
  (fun t s' v w => 1 ≤ t.height ∧ t.root ≤ 100000 ∧ v = int 0 ∧ Sat (pgr z s' mk :: tb z tp ((t.root : Nat) : Int) ((t.height : Nat) : Int) ((t.count : Nat) : Int) :: F) w)
  (fun e s' v w => v = int e ∧ ∃ a b c, Sat (pgr z s' mk :: tb z tp a b c :: F) w)
theorem truth_spec {b : Bool} {w : World} : Ret Tryz.prog 35 [bool b] w fun v w' => v = int (if b then 1 else 0) ∧ w' = w := by
  cases b with
  | true =>
    refine Ret.enter [(true, bool true)] _ Tryz.func35 rfl Tryz.ntmps35 rfl ?_
    refine zz ?_
    refine MC.ret rfl ?_
    exact ⟨rfl, rfl⟩
  | false =>
    refine Ret.enter [(true, bool false)] _ Tryz.func35 rfl Tryz.ntmps35 rfl ?_
    refine zz ?_
    refine MC.ret rfl ?_
    exact ⟨rfl, rfl⟩
theorem tgrow_spec {t : T} {md : Md} {vk : Value} {r0 : Int} (hs : Sat (pgr z s mk :: tb z tp r0 ((t.height : Nat) : Int) ((t.count : Nat) : Int) :: sl vk 5 1 md.key.length (bytesV md.key) :: F) w) (hmd : MdOk md) (h1 : 1 ≤ t.height) (hh : t.height ≤ 1000000) :
    Ret Tryz.prog 36 [ptr tp, .agg (mdC ((md.page : Nat) : Int) (pageI md.other) vk ((md.size : Nat) : Int)).toArray] w (OutT (growM z.E t md) z s mk tp F) := by
  obtain ⟨_, qk, ck, rfl, _⟩ := hs.tail.tail.sl_len
  obtain ⟨mpage, mother, mkey, msize⟩ := md
  obtain ⟨hmp, hmo, hms, hmk⟩ := hmd
  dsimp only [] at hmp hmo hms hmk hs ⊢
  refine Ret.enter [(true, ptr tp), (true, .agg (mdC ((mpage : Nat) : Int) (pageI mother) (.slice qk mkey.length ck) ((msize : Nat) : Int)).toArray)] _ Tryz.func36 rfl Tryz.ntmps36 rfl ?_
  refine zz ?_
  refine MC.does true (does_box hs rfl rfl) rfl ?_; rintro _ w ⟨b3, rfl, hs⟩
  refine zz ?_
  refine MC.does true (does_store1 hs rfl rfl rfl (by first | decide | (simp; done) | (simp; omega))) rfl ?_; intro _ w hs
  cases mother with
  | none =>
    dsimp only [pageI] at hs ⊢
    refine zz ?_
    refine MC.ret rfl ?_
    exact .inl ⟨{ t with root := mpage }, s, ⟨rfl, rfl⟩, h1, hmp, rfl, hs.pickF 4 [1, 2] rfl rfl⟩
  | some o =>
    have hmo := hmo o rfl
    dsimp only [pageI] at hs ⊢
    refine zz ?_
    refine MC.does true (does_buildL hs rfl rfl rfl (all1 rfl) rfl) rfl ?_; rintro _ w ⟨bk, rfl, hs⟩
    refine zz ?_
    refine MC.does true (does_buildL hs rfl rfl rfl (all1 rfl) rfl) rfl ?_; rintro _ w ⟨bi, rfl, hs⟩
    refine zz ?_
    refine MC.pure (f := true) (po_build (ls := [(1, [.slice (some ⟨bk, 0, none⟩) 1 1]), (3, [.slice (some ⟨bi, 0, none⟩) 2 2])]) (out := [bool false, .slice (some ⟨bk, 0, none⟩) 1 1, .slice none 0 0, .slice (some ⟨bi, 0, none⟩) 2 2]) rfl rfl ⟨⟨_, rfl, by simp⟩, ⟨_, rfl, by simp⟩, trivial⟩ rfl) rfl ?_
    have hs := hs.pickF 6 [3, 4, 0, 1, 5, 2] rfl rfl
    have hs : Sat (pgr z s mk :: tb z tp ((mpage : Nat) : Int) ((t.height : Nat) : Int) ((t.count : Nat) : Int) :: blk bi (bufV [mpage, o]) 3 :: blk bk [.slice qk mkey.length ck] 44 :: sl (.slice qk mkey.length ck) 5 1 mkey.length (bytesV mkey) :: blk b3 (mdC ((mpage : Nat) : Int) ((o : Nat) : Int) (.slice qk mkey.length ck) ((msize : Nat) : Int)) 99 :: F) w := hs
    have hd := hs.tail.tail
    have hrd : NdR (blk bi (bufV [mpage, o]) 3 :: blk bk [.slice qk mkey.length ck] 44 :: sl (.slice qk mkey.length ck) 5 1 mkey.length (bytesV mkey) :: blk b3 (mdC ((mpage : Nat) : Int) ((o : Nat) : Int) (.slice qk mkey.length ck) ((msize : Nat) : Int)) 99 :: F) ⟨.slice (some ⟨bk, 0, none⟩) 1 1, .slice none 0 0, .slice (some ⟨bi, 0, none⟩) 2 2, [.slice qk mkey.length ck], []⟩ ⟨false, [mkey], [], [mpage, o]⟩ :=
      ⟨(Rows.one_key (RdS.of_sl hd.tail.tail) hd.tail).up, ⟨⟨_, _, rfl, Nat.le_refl _, rfl, fun h => absurd h (by simp)⟩, fun i hi => absurd hi (by simp)⟩, ⟨_, _, rfl, Nat.le_refl _, rfl, fun _ => ⟨bi, 0, rfl, Rd.of_at⟩⟩, ⟨by simp, by simp, by simp⟩, fun k hk => by rw [List.mem_singleton.1 hk]; exact hmk, fun k hk => by cases hk⟩
    have hput := tput_spec (tp := tp) (page := none) hs hrd.up (fun k hk => by
      simp only [List.mem_cons, List.not_mem_nil, or_false] at hk
      rcases hk with h | h <;> (rw [h]; assumption)) (fun p h => by cases h)
    refine MC.does true (does_call rfl (hput)) rfl ?_
    rintro _ w (⟨k, s', hm, hkl, rfl, hs⟩ | ⟨e, s', he, hm, k, rfl, hs⟩)
    · refine zz ?_
      refine MC.does true (does_store1 hs rfl rfl rfl (by first | decide | (simp; done) | (simp; omega))) rfl ?_; intro _ w hs
      refine zz ?_
      refine MC.does true (does_store1 hs rfl rfl rfl (by first | decide | (simp; done) | (simp; omega))) rfl ?_; intro _ w hs
      refine zz ?_
      refine MC.ret rfl ?_
      refine .inl ⟨{ t with root := k, height := t.height + 1 }, s', .inr ⟨k, s', hm, rfl, rfl⟩, by show 1 ≤ t.height + 1; omega, hkl, rfl, ?_⟩
      have hs := hs.pickF 6 [0, 1] rfl rfl
      show Sat (pgr z s' mk :: tb z tp ((k : Nat) : Int) (((t.height + 1 : Nat)) : Int) ((t.count : Nat) : Int) :: F) w
      push_cast
      exact hs
    · refine zz ?_
      refine MC.does true (does_store1 hs rfl rfl rfl (by first | decide | (simp; done) | (simp; omega))) rfl ?_; intro _ w hs
      refine zz ?_
      refine MC.does true (does_store1 hs rfl rfl rfl (by first | decide | (simp; done) | (simp; omega))) rfl ?_; intro _ w hs
      refine zz ?_
      refine MC.ret rfl ?_
      exact .inr ⟨e, s', he, .inl ⟨e, hm, rfl⟩, rfl, _, _, _, hs.pickF 6 [0, 1] rfl rfl⟩
theorem cell_len {E : En} {v cell : Bs} {s' : St} (h : cellM E v s (.ok cell) s') : cell.length ≤ 16 := by
  unfold cellM at h
  by_cases h1 : v.length ≤ 15
  · rw [if_pos h1] at h
    obtain ⟨h2, _⟩ := h
    cases h2
    simp; omega
  · rw [if_neg h1] at h
    rcases h with ⟨e, _, h⟩ | ⟨k, s1, _, h, _⟩
    · cases h
    · cases h
      simp
theorem tput1_spec {t : T} {key value : Bs} {vk vv : Value} {b0 b1 b2 : Nat} {r0 : Int} (hs : Sat (pgr z s mk :: tb z tp r0 ((t.height : Nat) : Int) ((t.count : Nat) : Int) :: blk b0 [ptr tp] 37 :: blk b1 [vv] 44 :: blk b2 [vk] 44 :: F) w) (hr0 : 1 ≤ t.height → r0 = ((t.root : Nat) : Int))
    (hkey : RdS F 1 vk key.length (bytesV key)) (hkl : key.length ≤ 255) (hval : RdS F 1 vv value.length (bytesV value)) (hvl : value.length ≤ 1000000) (hrt : t.root ≤ 100000) (hh : t.height ≤ 100000) (hct : t.count ≤ 1000000000) :
    Ret Tryz.prog 31 [ptr b0, ptr b1, ptr b2] w (OutT (putT z.E t key value) z s mk tp F) := by
  obtain ⟨qk, ck, rfl, _, _⟩ := hkey.shape
  obtain ⟨qv, cv, rfl, _, _⟩ := hval.shape
  have hcell := tcell_spec (tp := tp) hs hval.up hvl
  refine Ret.enter [(true, ptr b0), (true, ptr b1), (true, ptr b2)] _ Tryz.func31 rfl Tryz.ntmps31 rfl ?_
  refine zz ?_
  refine MC.does true (does_call rfl (hcell)) rfl ?_
  rintro _ w (⟨cell, s1, hm, vc, rfl, hs⟩ | ⟨e, s', he, hm, vc, rfl, hs⟩)
  · have hcl := cell_len hm
    obtain ⟨_, qc, cc, rfl, _⟩ := hs.sl_len
    have hmod : ∀ (r : Res T) (s2 : St), (if t.height = 0 then (putNM z.E none ⟨true, [key], [cell], []⟩).bind fun k => M.pure ⟨k, 1, 1⟩
        else (insertM z.E t.height t.root key cell).bind fun x => growM z.E { t with count := t.count + (if x.2 then 1 else 0) } x.1) s1 r s2 → putT z.E t key value s r s2 := fun r s2 h => .inr ⟨cell, s1, hm, h⟩
    have hs := hs.swap
    by_cases h0 : t.height = 0
    · simp only [if_pos h0] at hmod
      refine zz ?_
      refine MC.does true (does_buildL hs rfl rfl rfl (all1 rfl) rfl) rfl ?_; rintro _ w ⟨bk, rfl, hs⟩
      refine zz ?_
      refine MC.does true (does_buildL hs rfl rfl rfl (all1 rfl) rfl) rfl ?_; rintro _ w ⟨bc, rfl, hs⟩
      refine MC.pure (f := true) (po_build (ls := [(0, [bool true]), (1, [.slice (some ⟨bk, 0, none⟩) 1 1]), (2, [.slice (some ⟨bc, 0, none⟩) 1 1])]) (out := [bool true, .slice (some ⟨bk, 0, none⟩) 1 1, .slice (some ⟨bc, 0, none⟩) 1 1, .slice none 0 0]) rfl rfl ⟨⟨_, rfl, by simp⟩, ⟨_, rfl, by simp⟩, ⟨_, rfl, by simp⟩, trivial⟩ rfl) rfl ?_
      have hs := hs.pickF 4 [2, 1, 0, 3] rfl rfl
      have hd := hs.tail
      have hrd : NdR _ ⟨.slice (some ⟨bk, 0, none⟩) 1 1, .slice (some ⟨bc, 0, none⟩) 1 1, .slice none 0 0, [.slice qk key.length ck], [.slice qc cell.length cc]⟩ ⟨true, [key], [cell], []⟩ :=
        ⟨Rows.one_key hkey.up hd, (Rows.one_key (RdS.of_sl hd.tail.tail) hd.tail).up, ⟨_, _, rfl, Nat.le_refl _, rfl, fun h => absurd h (by simp)⟩, ⟨by simp, by simp, by simp⟩, fun k hk => by rw [List.mem_singleton.1 hk]; omega, fun k hk => by rw [List.mem_singleton.1 hk]; omega⟩
      have hput := tput_spec (tp := tp) (page := none) hs hrd (fun k hk => by cases hk) (fun p h => by cases h)
      refine MC.does true (does_call rfl (hput)) rfl ?_
      rintro _ w (⟨k, s', hm2, hkl2, rfl, hs⟩ | ⟨e, s', he, hm2, k, rfl, hs⟩)
      · refine zz ?_
        refine MC.does true (does_store1 hs rfl rfl rfl (by first | decide | (simp; done) | (simp; omega))) rfl ?_; intro _ w hs
        refine zz ?_
        refine MC.does true (does_store1 hs rfl rfl rfl (by first | decide | (simp; done) | (simp; omega))) rfl ?_; intro _ w hs
        refine zz ?_
        refine MC.does true (does_store1 hs rfl rfl rfl (by first | decide | (simp; done) | (simp; omega))) rfl ?_; intro _ w hs
        refine zz ?_
        refine MC.ret rfl ?_
        exact .inl ⟨⟨k, 1, 1⟩, s', hmod _ _ (.inr ⟨k, s', hm2, rfl, rfl⟩), Nat.le_refl _, hkl2, rfl, hs.pickF 8 [0, 4] rfl rfl⟩
      · refine zz ?_
        refine MC.does true (does_store1 hs rfl rfl rfl (by first | decide | (simp; done) | (simp; omega))) rfl ?_; intro _ w hs
        refine zz ?_
        refine MC.does true (does_store1 hs rfl rfl rfl (by first | decide | (simp; done) | (simp; omega))) rfl ?_; intro _ w hs
        refine zz ?_
        refine MC.does true (does_store1 hs rfl rfl rfl (by first | decide | (simp; done) | (simp; omega))) rfl ?_; intro _ w hs
        refine zz ?_
        refine MC.ret rfl ?_
        exact .inr ⟨e, s', he, hmod _ _ (.inl ⟨e, hm2, rfl⟩), rfl, _, _, _, hs.pickF 8 [0, 4] rfl rfl⟩
    · simp only [if_neg h0] at hmod
      obtain ⟨hh', hhe⟩ : ∃ h', t.height = h' + 1 := ⟨t.height - 1, by omega⟩
      have hr0 := hr0 (by omega)
      subst hr0
      have eh : ((t.height : Nat) : Int) = ((hh' : Nat) : Int) + 1 := by omega
      have hins := tinsert_spec (tp := tp) (page := t.root) hh' hs inferInstance hkey.up hkl (show cell.length ≤ 255 by omega) hrt (by omega)
      rw [← eh, ← hhe] at hins
      refine zz ?_
      refine MC.cutAtS 1 (σ := Bool × Int × Nat) (fun x => [(0, true, ptr b0), (8, true, ptr x.2.2), (9, true, bool x.1), (5, true, int x.2.1)]) (fun x w => (x.2.1 = 0 ∧ ∃ md vk s2, insertM z.E t.height t.root key cell s1 (.ok (md, x.1)) s2 ∧ MdOk md ∧ Sat (pgr z s2 mk :: tb z tp ((t.root : Nat) : Int) ((t.height : Nat) : Int) ((t.count : Nat) : Int) :: sl vk 5 1 md.key.length (bytesV md.key) :: blk x.2.2 (mdC ((md.page : Nat) : Int) (pageI md.other) vk ((md.size : Nat) : Int)) 99 :: blk b0 [ptr tp] 37 :: F) w) ∨
        (x.2.1 ≠ 0 ∧ ∃ s2, insertM z.E t.height t.root key cell s1 (.err x.2.1) s2 ∧ Sat (pgr z s2 mk :: tb z tp ((t.root : Nat) : Int) ((t.height : Nat) : Int) ((t.count : Nat) : Int) :: F) w)) rfl ?_ ?_
      rotate_left
      · refine MC.draw hs [0, 1, 2, 3, 4, 5, 6, 7, 8, 9, 10, 11, 12, 13, 14, 15, 16, 17, 18, 19] (by rfl) ?_; intro w hs
        refine zd ?_
        have hins := tinsert_spec (tp := tp) (page := t.root) hh' hs inferInstance hkey.up hkl (show cell.length ≤ 255 by omega) hrt (by omega)
        rw [← eh, ← hhe] at hins
        refine MC.fork 16 [11, 12, 13, 14, 15, 17, 18, 19] rfl rfl (does_call rfl hins) (does_alloc hs) ?_ ?_
        · rintro _ w (⟨⟨md, fr⟩, s2, hm2, hmd, vk2, rfl, hs⟩ | ⟨e, s2, he, hm2, a2, c2, q2, n2, cc2, d2, t2, rfl, hs⟩)
          · refine zh ?_
            dsimp only [] at hmd hs
            obtain ⟨_, qm, cm, rfl, _⟩ := hs.sl_len
            refine zd ?_
            refine MC.doesK true (does_alloc hs) rfl rfl rfl ?_; rintro _ w ⟨b8, rfl, hs⟩; refine zh ?_
            refine zd ?_
            refine MC.doesL true (does_store (vs := mdC ((md.page : Nat) : Int) (pageI md.other) (.slice qm md.key.length cm) ((md.size : Nat) : Int)) hs rfl rfl rfl rfl (all1 rfl) (by simp)) rfl rfl rfl rfl ?_; intro _ w hs; rw [splice_all (by rfl)] at hs; refine zh ?_
            refine zd ?_
            exact MC.meetS (fr, 0, b8) (by repeat (first | exact trivial | refine ⟨rfl, ?_⟩)) (.inl ⟨rfl, md, .slice qm md.key.length cm, s2, hm2, hmd, hs.pickF 7 [2, 3, 1, 0, 4] rfl rfl⟩)
          · refine zh ?_
            refine zd ?_
            refine MC.doesK true (does_alloc hs) rfl rfl rfl ?_; rintro _ w ⟨b8, rfl, hs⟩; refine zh ?_
            refine zd ?_
            refine MC.doesL true (does_store (vs := mdC a2 c2 (.slice q2 n2 cc2) d2) hs rfl rfl rfl rfl (all1 rfl) (by simp)) rfl rfl rfl rfl ?_; intro _ w hs; rw [splice_all (by rfl)] at hs; refine zh ?_
            refine zd ?_
            exact MC.meetS (t2, e, b8) (by repeat (first | exact trivial | refine ⟨rfl, ?_⟩)) (.inr ⟨he, s2, hm2, hs.pickF 6 [1, 2] rfl rfl⟩)
        · rintro _ w ⟨b8, rfl, hs⟩
          refine zh ?_
          refine zd ?_
          have hs := hs.pickF 7 [1, 2, 3, 0, 4, 5, 6] rfl rfl
          have hins := tinsert_spec (tp := tp) (page := t.root) hh' hs inferInstance hkey.up hkl (show cell.length ≤ 255 by omega) hrt (by omega)
          rw [← eh, ← hhe] at hins
          refine MC.doesK true (does_call rfl (hins)) rfl rfl rfl ?_
          rintro _ w (⟨⟨md, fr⟩, s2, hm2, hmd, vk2, rfl, hs⟩ | ⟨e, s2, he, hm2, a2, c2, q2, n2, cc2, d2, t2, rfl, hs⟩)
          · refine zh ?_
            dsimp only [] at hmd hs
            obtain ⟨_, qm, cm, rfl, _⟩ := hs.sl_len
            refine zd ?_
            refine MC.doesL true (does_store (vs := mdC ((md.page : Nat) : Int) (pageI md.other) (.slice qm md.key.length cm) ((md.size : Nat) : Int)) hs rfl rfl rfl rfl (all1 rfl) (by simp)) rfl rfl rfl rfl ?_; intro _ w hs; rw [splice_all (by rfl)] at hs; refine zh ?_
            refine zd ?_
            exact MC.meetS (fr, 0, b8) (by repeat (first | exact trivial | refine ⟨rfl, ?_⟩)) (.inl ⟨rfl, md, .slice qm md.key.length cm, s2, hm2, hmd, hs.pickF 7 [1, 2, 0, 3, 4] rfl rfl⟩)
          · refine zh ?_
            refine zd ?_
            refine MC.doesL true (does_store (vs := mdC a2 c2 (.slice q2 n2 cc2) d2) hs rfl rfl rfl rfl (all1 rfl) (by simp)) rfl rfl rfl rfl ?_; intro _ w hs; rw [splice_all (by rfl)] at hs; refine zh ?_
            refine zd ?_
            exact MC.meetS (t2, e, b8) (by repeat (first | exact trivial | refine ⟨rfl, ?_⟩)) (.inr ⟨he, s2, hm2, hs.pickF 6 [0, 1] rfl rfl⟩)
      · rintro ⟨fr, e, b8⟩ w hI
        dsimp only [List.drop] at hI ⊢
        rcases hI with ⟨rfl, md, vm, s2, hm2, hmd, hs⟩ | ⟨he, s2, hm2, hs⟩
        · obtain ⟨_, qm, cm, rfl, _⟩ := hs.tail.tail.sl_len
          refine zz ?_
          refine MC.draw hs [0, 1, 2, 3, 4, 5, 6, 7, 8, 9] (by rfl) ?_; intro w hs
          refine zd ?_
          refine MC.doesK true (does_call rfl (truth_spec)) rfl rfl rfl ?_
          rintro _ _ ⟨rfl, rfl⟩
          refine zh ?_
          cases fr with
          | false =>
            have ecnt : ((t.count : Nat) : Int) + 0 = ((t.count + 0 : Nat) : Int) := by omega
            refine zd ?_
            refine MC.doesL true (does_store1 hs rfl rfl rfl (by simp)) rfl rfl rfl rfl ?_; intro _ w hs; refine zh ?_
            simp only [if_true, if_false, Bool.false_eq_true] at hs
            rw [ecnt] at hs
            have hs : Sat (pgr z s2 mk :: tb z tp ((t.root : Nat) : Int) ((t.height : Nat) : Int) ((t.count + 0 : Nat) : Int) :: sl (.slice qm md.key.length cm) 5 1 md.key.length (bytesV md.key) :: blk b8 (mdC ((md.page : Nat) : Int) (pageI md.other) (.slice qm md.key.length cm) ((md.size : Nat) : Int)) 99 :: blk b0 [ptr tp] 37 :: F) w := hs
            refine zz ?_
            refine MC.la true (la_loadV (vs := mdC ((md.page : Nat) : Int) (pageI md.other) (.slice qm md.key.length cm) ((md.size : Nat) : Int)) hs rfl rfl rfl rfl) rfl ?_
            refine zz ?_
            have hg := tgrow_spec (t := { t with count := t.count + 0 }) (md := md) hs hmd (by show 1 ≤ t.height; omega) (by show t.height ≤ 1000000; omega)
            refine MC.does true (does_call rfl (hg)) rfl ?_
            rintro _ w (⟨t3, s3, hm3, h3, h4, rfl, hs⟩ | ⟨e, s3, he, hm3, rfl, a', b', c', hs⟩)
            · refine zz ?_
              refine MC.ret rfl ?_
              exact .inl ⟨t3, s3, hmod _ _ (.inr ⟨(md, false), s2, hm2, hm3⟩), h3, h4, rfl, hs.pickF 4 [0, 1] rfl rfl⟩
            · refine zz ?_
              refine MC.ret rfl ?_
              exact .inr ⟨e, s3, he, hmod _ _ (.inr ⟨(md, false), s2, hm2, hm3⟩), rfl, _, _, _, hs.pickF 4 [0, 1] rfl rfl⟩
          | true =>
            have ecnt : ((t.count : Nat) : Int) + 1 = ((t.count + 1 : Nat) : Int) := by omega
            refine zd ?_
            refine MC.doesL true (does_store1 hs rfl rfl rfl (by simp)) rfl rfl rfl rfl ?_; intro _ w hs; refine zh ?_
            simp only [if_true, if_false, Bool.false_eq_true] at hs
            rw [ecnt] at hs
            have hs : Sat (pgr z s2 mk :: tb z tp ((t.root : Nat) : Int) ((t.height : Nat) : Int) ((t.count + 1 : Nat) : Int) :: sl (.slice qm md.key.length cm) 5 1 md.key.length (bytesV md.key) :: blk b8 (mdC ((md.page : Nat) : Int) (pageI md.other) (.slice qm md.key.length cm) ((md.size : Nat) : Int)) 99 :: blk b0 [ptr tp] 37 :: F) w := hs
            refine zz ?_
            refine MC.la true (la_loadV (vs := mdC ((md.page : Nat) : Int) (pageI md.other) (.slice qm md.key.length cm) ((md.size : Nat) : Int)) hs rfl rfl rfl rfl) rfl ?_
            refine zz ?_
            have hg := tgrow_spec (t := { t with count := t.count + 1 }) (md := md) hs hmd (by show 1 ≤ t.height; omega) (by show t.height ≤ 1000000; omega)
            refine MC.does true (does_call rfl (hg)) rfl ?_
            rintro _ w (⟨t3, s3, hm3, h3, h4, rfl, hs⟩ | ⟨e, s3, he, hm3, rfl, a', b', c', hs⟩)
            · refine zz ?_
              refine MC.ret rfl ?_
              exact .inl ⟨t3, s3, hmod _ _ (.inr ⟨(md, true), s2, hm2, hm3⟩), h3, h4, rfl, hs.pickF 4 [0, 1] rfl rfl⟩
            · refine zz ?_
              refine MC.ret rfl ?_
              exact .inr ⟨e, s3, he, hmod _ _ (.inr ⟨(md, true), s2, hm2, hm3⟩), rfl, _, _, _, hs.pickF 4 [0, 1] rfl rfl⟩
        · refine zz ?_
          refine MC.ret rfl ?_
          exact .inr ⟨e, s2, he, hmod _ _ (.inl ⟨e, hm2, rfl⟩), rfl, _, _, _, hs⟩
  · refine zz ?_
    refine MC.ret rfl ?_
    exact .inr ⟨e, s', he, .inl ⟨e, hm, rfl⟩, rfl, _, _, _, hs.pickF 5 [0, 1] rfl rfl⟩
end
end Go.Proofs.YtjlofdodiaklaaaGreat
