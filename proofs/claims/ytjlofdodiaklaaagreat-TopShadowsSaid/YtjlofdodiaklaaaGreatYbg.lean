/-
  Trees: shrink, Del's inner function, Del | Trees: New, Open, Root, Height, Count, Get | What a tree must be so that a key may be taken out | Lists of pairs: strings compared, find, Short | Small facts about trees
-/
import Derived.Test.YtjlofdodiaklaaaGreatYbf
import Derived.Test.YtjlofdodiaklaaaGreatYal
set_option maxHeartbeats 1000000
set_option linter.unusedVariables false
set_option linter.unusedSimpArgs false
namespace Go.Proofs.YtjlofdodiaklaaaGreat
open Go Go.Sl Go.Tr
attribute [local irreducible] LooksAt

section
variable {F : List Assn} {z : Pw} {s : St} {mk : Option (Nat × St)} {w : World} {tp : Nat}
abbrev tbT (z : Pw) (tp : Nat) (t : T) : Assn := tb z tp (rootI t) ((t.height : Nat) : Int) ((t.count : Nat) : Int)
def OutS (m : M T) (z : Pw) (s : St) (mk : Option (Nat × St)) (tp : Nat) (F : List Assn) : Value → World → Prop := Out m s
  (fun t s' v w => v = int 0 ∧ Sat (pgr z s' mk :: tbT z tp t :: F) w)
  (fun e s' v w => v = int e ∧ ∃ a b c, Sat (pgr z s' mk :: tb z tp a b c :: F) w)
theorem tshrink_spec {t : T} (hs : Sat (pgr z s mk :: tb z tp ((t.root : Nat) : Int) ((t.height : Nat) : Int) ((t.count : Nat) : Int) :: F) w) (h1 : 1 ≤ t.height) (hh : t.height ≤ 1000000) (hrt : t.root ≤ 100000)
    (hleaf : ∀ n s', nodeM z.E t.root s (.ok n) s' → n.leaf = decide (t.height = 1)) :
    Ret Tryz.prog 40 [ptr tp] w (OutS (shrinkM z.E t) z s mk tp F) := by
  have hrd := tread_spec (tp := tp) hs hrt
  have hri : rootI t = ((t.root : Nat) : Int) := by unfold rootI; rw [if_neg (by omega)]
  refine Ret.enter [(true, ptr tp)] _ Tryz.func40 rfl Tryz.ntmps40 rfl ?_
  refine zz ?_
  refine MC.does true (does_call rfl (hrd)) rfl ?_
  rintro _ w (⟨n, s1, hm, hrig, ⟨sk, sv, si, rk, rv⟩, pool, hin, hfew, rfl, hs⟩ | ⟨e, s1, he, hm, lf, q1, n1, c1, q2, n2, c2, q3, n3, c3, rfl, hs⟩)
  · obtain ⟨_, qk, ck, rfl, _⟩ := hs.tail.sl_len
    obtain ⟨_, qv, cv, rfl, _⟩ := hs.tail.tail.sl_len
    obtain ⟨_, qi, ci, rfl, _⟩ := hs.tail.tail.tail.sl_len
    have hlf := hleaf n s1 hm
    have hs := hs.pickF 6 [4, 5, 0, 1, 2, 3] rfl rfl
    have hf1 := hfew.keys
    refine zz ?_
    refine MC.does true (does_alloc hs) rfl ?_; rintro _ w ⟨b3, rfl, hs⟩
    refine zz ?_
    refine MC.does true (does_store (vs := [bool n.leaf, .slice qk n.keys.length ck, .slice qv n.vals.length cv, .slice qi n.kids.length ci]) hs rfl rfl rfl rfl (all1 rfl) (by simp)) rfl ?_; intro _ w hs; rw [splice_all (by rfl)] at hs
    by_cases hk0 : 0 < n.keys.length
    · refine zz ?_
      refine MC.ret rfl ?_
      refine .inl ⟨t, s1, .inr ⟨n, s1, hm, by dsimp only []; rw [if_pos hk0]; exact ⟨rfl, rfl⟩⟩, rfl, ?_⟩
      show Sat (_ :: tb z tp (rootI t) _ _ :: F) w
      rw [hri]
      exact hs.pickF 7 [1, 2] rfl rfl
    · have hmod : ∀ (r : Res T) (s2 : St), ((dropM z.E t.root).bind fun _ => M.pure { t with root := if n.leaf then 0 else n.kids.getD 0 0, height := t.height - 1 }) s1 r s2 → shrinkM z.E t s r s2 := fun r s2 h => .inr ⟨n, s1, hm, by dsimp only []; rw [if_neg hk0]; exact h⟩
      refine zz ?_
      have hs := hs.pickF 7 [1, 0, 2, 3, 4, 5, 6] rfl rfl
      refine MC.draw hs [0, 1, 2, 3, 4, 5, 6, 7, 8, 9] (by rfl) ?_; intro w hs
      refine zd ?_
      refine MC.doesK true (does_call rfl (drop_spec hs hrt)) rfl rfl rfl ?_
      rintro _ w (⟨_, s2, hm2, rfl, hs⟩ | ⟨e, s2, he, hm2, rfl, hs⟩)
      · refine zh ?_
        refine zz ?_
        refine MC.does true (does_store1 hs rfl rfl rfl (by first | decide | (simp; done) | (simp; omega))) rfl ?_; intro _ w hs
        refine zz ?_
        refine MC.does true (does_store1 hs rfl rfl rfl (by first | decide | (simp; done) | (simp; omega))) rfl ?_; intro _ w hs
        have eh : ((t.height : Nat) : Int) - 1 = ((t.height - 1 : Nat) : Int) := by omega
        cases hl : n.leaf with
        | true =>
          rw [hl] at hlf
          have ht1 : t.height = 1 := of_decide_eq_true hlf.symm
          rw [hl] at hs
          refine zz ?_
          refine MC.ret rfl ?_
          refine .inl ⟨_, s2, hmod _ _ (.inr ⟨_, s2, hm2, rfl, rfl⟩), rfl, ?_⟩
          unfold tbT rootI
          rw [if_pos (by show t.height - 1 = 0; omega)]
          show Sat (_ :: tb z tp (-1) ((t.height - 1 : Nat) : Int) _ :: F) w
          rw [← eh]
          exact hs.pickF 7 [0, 2] rfl rfl
        | false =>
          rw [hl] at hlf
          have ht1 : t.height ≠ 1 := of_decide_eq_false hlf.symm
          rw [hl] at hs
          have hkk := hrig.1.2.2
          rw [if_neg (by rw [hl]; decide)] at hkk
          obtain ⟨_, hkk, _⟩ := hkk
          have hk1 : 0 < n.kids.length := by omega
          have hr := RdS.of_sl hs.tail.tail.tail.tail.tail.tail
          obtain ⟨kb, ko, rfl, hkr⟩ := hr.at_ (by omega)
          have hat : (bufV n.kids)[((0 : Nat) : Int).toNat * 1]? = some (int ((n.kids[0] : Nat) : Int)) := by simp [bufV, hk1]
          have hgd : n.kids.getD 0 0 = n.kids[0] := by rw [List.getD_eq_getElem?_getD, List.getElem?_eq_getElem hk1]; rfl
          refine zz ?_
          refine MC.la true (la_load1_rd hkr hs (j := ((0 : Nat) : Int).toNat * 1) rfl hat) rfl ?_
          refine zz ?_
          refine MC.does true (does_store1 hs rfl rfl rfl (by first | decide | (simp; done) | (simp; omega))) rfl ?_; intro _ w hs
          refine zz ?_
          refine MC.ret rfl ?_
          refine .inl ⟨_, s2, hmod _ _ (.inr ⟨_, s2, hm2, rfl, rfl⟩), rfl, ?_⟩
          unfold tbT rootI
          rw [if_neg (by show t.height - 1 ≠ 0; omega)]
          have hg0 : (if n.leaf = true then 0 else n.kids.getD 0 0) = n.kids[0] := by rw [if_neg (by rw [hl]; decide)]; exact hgd
          show Sat (_ :: tb z tp (((if n.leaf = true then 0 else n.kids.getD 0 0 : Nat)) : Int) ((t.height - 1 : Nat) : Int) _ :: F) w
          rw [← eh, hg0]
          exact hs.pickF 7 [0, 2] rfl rfl
      · refine zh ?_
        refine zz ?_
        refine MC.ret rfl ?_
        exact .inr ⟨e, s2, he, hmod _ _ (.inl ⟨e, hm2, rfl⟩), rfl, _, _, _, hs.pickF 7 [0, 2] rfl rfl⟩
  · refine zz ?_
    refine MC.does true (does_alloc hs) rfl ?_; rintro _ w ⟨b3, rfl, hs⟩
    refine zz ?_
    refine MC.does true (does_store (vs := [bool lf, .slice q1 n1 c1, .slice q2 n2 c2, .slice q3 n3 c3]) hs rfl rfl rfl rfl (all1 rfl) (by simp)) rfl ?_; intro _ w hs; rw [splice_all (by rfl)] at hs
    refine zz ?_
    refine MC.ret rfl ?_
    exact .inr ⟨e, s1, he, .inl ⟨e, hm, rfl⟩, rfl, _, _, _, hs.pickF 3 [1, 2] rfl rfl⟩
def OutD (m : M (T × Bool)) (z : Pw) (s : St) (mk : Option (Nat × St)) (tp b7 : Nat) (F : List Assn) : Value → World → Prop := Out m s
  (fun x s' v w => v = int 0 ∧ Sat (pgr z s' mk :: tbT z tp x.1 :: blk b7 [bool x.2] 4 :: F) w)
  (fun e s' v w => v = int e ∧ ∃ a b c t, Sat (pgr z s' mk :: tb z tp a b c :: blk b7 [bool t] 4 :: F) w)
structure Fit (E : En) (s : St) (t : T) (key : Bs) : Prop where
  deep : ∀ h, t.height = h + 1 → Deep E s h t.root
  one : ∀ x s1, 1 ≤ t.height → removeM E t.height t.root key s (.ok x) s1 → x.2 = true → 1 ≤ t.count
  leaf : ∀ x s1 t2 s2, 1 ≤ t.height → removeM E t.height t.root key s (.ok x) s1 → x.2 = true → growM E { t with count := t.count - 1 } x.1 s1 (.ok t2) s2 → ∀ n s', nodeM E t2.root s2 (.ok n) s' → n.leaf = decide (t2.height = 1)
theorem growM_height {E : En} {t t2 : T} {md : Md} {s s2 : St} (h : growM E t md s (.ok t2) s2) : t2.height ≤ t.height + 1 ∧ t2.count = t.count := by
  unfold growM at h
  cases ho : md.other with
  | none => rw [ho] at h; obtain ⟨h, _⟩ := h; cases h; exact ⟨Nat.le_succ _, rfl⟩
  | some o =>
    rw [ho] at h
    rcases h with ⟨e, _, h⟩ | ⟨k, s1, _, h, _⟩
    · cases h
    · cases h; exact ⟨Nat.le_refl _, rfl⟩
theorem tdel1_spec {t : T} {key : Bs} {vk : Value} {b0 b2 b7 : Nat} (hs : Sat (pgr z s mk :: tbT z tp t :: blk b0 [ptr tp] 37 :: blk b2 [vk] 44 :: blk b7 [bool false] 4 :: F) w)
    (hkey : RdS F 1 vk key.length (bytesV key)) (hkl : key.length ≤ 255) (hrt : t.root ≤ 100000) (hh : t.height ≤ 100000) (hct : t.count ≤ 1000000000) (hfit : Fit z.E s t key) :
    Ret Tryz.prog 38 [ptr b0, ptr b2, ptr b7] w (OutD (delT z.E t key) z s mk tp b7 F) := by
  obtain ⟨qk, ck, rfl, _, _⟩ := hkey.shape
  refine Ret.enter [(true, ptr b0), (true, ptr b2), (true, ptr b7)] _ Tryz.func38 rfl Tryz.ntmps38 rfl ?_
  refine zz ?_
  by_cases h0 : t.height = 0
  · refine zz ?_
    refine MC.ret rfl ?_
    refine .inl ⟨(t, false), s, ?_, rfl, hs.pickF 5 [0, 1, 4] rfl rfl⟩
    unfold delT
    rw [if_pos h0]
    exact ⟨rfl, rfl⟩
  · obtain ⟨hh', hhe⟩ : ∃ h', t.height = h' + 1 := ⟨t.height - 1, by omega⟩
    have hri : rootI t = ((t.root : Nat) : Int) := by unfold rootI; rw [if_neg h0]
    have hmod : ∀ (r : Res (T × Bool)) (s2 : St), ((removeM z.E t.height t.root key).bind fun x => if x.2 then (growM z.E { t with count := t.count - 1 } x.1).bind fun t => (shrinkM z.E t).bind fun t => M.pure (t, true) else M.pure (t, false)) s r s2 → delT z.E t key s r s2 := fun r s2 h => by
      unfold delT
      rw [if_neg h0]
      exact h
    unfold tbT at hs
    rw [hri] at hs
    have eh : ((t.height : Nat) : Int) = ((hh' : Nat) : Int) + 1 := by omega
    have hdeep := hfit.deep hh' hhe
    refine zz ?_
    refine MC.cutAtS 1 (σ := Bool × Int × Nat) (fun x => [(0, true, ptr b0), (2, true, ptr b7), (4, true, ptr x.2.2), (5, true, bool x.1), (6, true, int x.2.1)]) (fun x w => (x.2.1 = 0 ∧ ∃ md vk s2, removeM z.E t.height t.root key s (.ok (md, x.1)) s2 ∧ MdOk md ∧ Sat (pgr z s2 mk :: tb z tp ((t.root : Nat) : Int) ((t.height : Nat) : Int) ((t.count : Nat) : Int) :: sl vk 5 1 md.key.length (bytesV md.key) :: blk x.2.2 (mdC ((md.page : Nat) : Int) (pageI md.other) vk ((md.size : Nat) : Int)) 99 :: blk b7 [bool false] 4 :: blk b0 [ptr tp] 37 :: F) w) ∨
      (x.2.1 ≠ 0 ∧ ∃ s2, removeM z.E t.height t.root key s (.err x.2.1) s2 ∧ Sat (pgr z s2 mk :: tb z tp ((t.root : Nat) : Int) ((t.height : Nat) : Int) ((t.count : Nat) : Int) :: blk b7 [bool false] 4 :: F) w)) rfl ?_ ?_
    rotate_left
    · refine MC.draw hs [0, 1, 2, 3, 4, 5, 6, 7, 8, 9, 10, 11, 12, 13, 14, 15, 16, 17, 18] (by rfl) ?_; intro w hs
      refine zd ?_
      have hrm := tremove_spec (tp := tp) (page := t.root) hh' hs inferInstance hkey.up hkl hrt (by omega) hdeep
      rw [← eh, ← hhe] at hrm
      refine MC.fork 15 [10, 11, 12, 13, 14, 16, 17, 18] rfl rfl (does_call rfl hrm) (does_alloc hs) ?_ ?_
      · rintro _ w (⟨⟨md, fr⟩, s2, hm2, hmd, vk2, rfl, hs⟩ | ⟨e, s2, he, hm2, a2, c2, q2, n2, cc2, d2, t2, rfl, hs⟩)
        · refine zh ?_
          dsimp only [] at hmd hs
          obtain ⟨_, qm, cm, rfl, _⟩ := hs.sl_len
          refine zd ?_
          refine MC.doesK true (does_alloc hs) rfl rfl rfl ?_; rintro _ w ⟨b8, rfl, hs⟩; refine zh ?_
          refine zd ?_
          refine MC.doesL true (does_store (vs := mdC ((md.page : Nat) : Int) (pageI md.other) (.slice qm md.key.length cm) ((md.size : Nat) : Int)) hs rfl rfl rfl rfl (all1 rfl) (by simp)) rfl rfl rfl rfl ?_; intro _ w hs; rw [splice_all (by rfl)] at hs; refine zh ?_
          refine zd ?_
          exact MC.meetS (fr, 0, b8) (by repeat (first | exact trivial | refine ⟨rfl, ?_⟩)) (.inl ⟨rfl, md, .slice qm md.key.length cm, s2, hm2, hmd, hs.pickF 7 [2, 3, 1, 0, 6, 4] rfl rfl⟩)
        · refine zh ?_
          refine zd ?_
          refine MC.doesK true (does_alloc hs) rfl rfl rfl ?_; rintro _ w ⟨b8, rfl, hs⟩; refine zh ?_
          refine zd ?_
          refine MC.doesL true (does_store (vs := mdC a2 c2 (.slice q2 n2 cc2) d2) hs rfl rfl rfl rfl (all1 rfl) (by simp)) rfl rfl rfl rfl ?_; intro _ w hs; rw [splice_all (by rfl)] at hs; refine zh ?_
          refine zd ?_
          exact MC.meetS (t2, e, b8) (by repeat (first | exact trivial | refine ⟨rfl, ?_⟩)) (.inr ⟨he, s2, hm2, hs.pickF 6 [1, 2, 5] rfl rfl⟩)
      · rintro _ w ⟨b8, rfl, hs⟩
        refine zh ?_
        refine zd ?_
        have hs := hs.pickF 6 [1, 2, 3, 0, 4, 5] rfl rfl
        have hrm := tremove_spec (tp := tp) (page := t.root) hh' hs inferInstance hkey.up hkl hrt (by omega) hdeep
        rw [← eh, ← hhe] at hrm
        refine MC.doesK true (does_call rfl (hrm)) rfl rfl rfl ?_
        rintro _ w (⟨⟨md, fr⟩, s2, hm2, hmd, vk2, rfl, hs⟩ | ⟨e, s2, he, hm2, a2, c2, q2, n2, cc2, d2, t2, rfl, hs⟩)
        · refine zh ?_
          dsimp only [] at hmd hs
          obtain ⟨_, qm, cm, rfl, _⟩ := hs.sl_len
          refine zd ?_
          refine MC.doesL true (does_store (vs := mdC ((md.page : Nat) : Int) (pageI md.other) (.slice qm md.key.length cm) ((md.size : Nat) : Int)) hs rfl rfl rfl rfl (all1 rfl) (by simp)) rfl rfl rfl rfl ?_; intro _ w hs; rw [splice_all (by rfl)] at hs; refine zh ?_
          refine zd ?_
          exact MC.meetS (fr, 0, b8) (by repeat (first | exact trivial | refine ⟨rfl, ?_⟩)) (.inl ⟨rfl, md, .slice qm md.key.length cm, s2, hm2, hmd, hs.pickF 7 [1, 2, 0, 4, 6, 3] rfl rfl⟩)
        · refine zh ?_
          refine zd ?_
          refine MC.doesL true (does_store (vs := mdC a2 c2 (.slice q2 n2 cc2) d2) hs rfl rfl rfl rfl (all1 rfl) (by simp)) rfl rfl rfl rfl ?_; intro _ w hs; rw [splice_all (by rfl)] at hs; refine zh ?_
          refine zd ?_
          exact MC.meetS (t2, e, b8) (by repeat (first | exact trivial | refine ⟨rfl, ?_⟩)) (.inr ⟨he, s2, hm2, hs.pickF 6 [0, 1, 5] rfl rfl⟩)
    · rintro ⟨fr, e, b8⟩ w hI
      dsimp only [List.drop] at hI ⊢
      rcases hI with ⟨rfl, md, vm, s2, hm2, hmd, hs⟩ | ⟨he, s2, hm2, hs⟩
      · obtain ⟨_, qm, cm, rfl, _⟩ := hs.tail.tail.sl_len
        cases fr with
        | false =>
          refine zz ?_
          refine MC.ret rfl ?_
          refine .inl ⟨(t, false), s2, hmod _ _ (.inr ⟨(md, false), s2, hm2, rfl, rfl⟩), rfl, ?_⟩
          unfold tbT
          rw [hri]
          exact hs.pickF 6 [0, 1, 4] rfl rfl
        | true =>
          have hc1 := hfit.one (md, true) s2 (by omega) hm2 rfl
          have ecnt : ((t.count : Nat) : Int) - 1 = ((t.count - 1 : Nat) : Int) := by omega
          refine zz ?_
          refine MC.does true (does_store1 hs rfl rfl rfl (by first | decide | (simp; done) | (simp; omega))) rfl ?_; intro _ w hs
          refine zz ?_
          refine MC.does true (does_store1 hs rfl rfl rfl (by first | decide | (simp; done) | (simp; omega))) rfl ?_; intro _ w hs
          rw [ecnt] at hs
          have hs : Sat (pgr z s2 mk :: tb z tp ((t.root : Nat) : Int) ((t.height : Nat) : Int) ((t.count - 1 : Nat) : Int) :: sl (.slice qm md.key.length cm) 5 1 md.key.length (bytesV md.key) :: blk b8 (mdC ((md.page : Nat) : Int) (pageI md.other) (.slice qm md.key.length cm) ((md.size : Nat) : Int)) 99 :: blk b7 [bool true] 4 :: blk b0 [ptr tp] 37 :: F) w := hs
          refine zz ?_
          refine MC.la true (la_loadV (vs := mdC ((md.page : Nat) : Int) (pageI md.other) (.slice qm md.key.length cm) ((md.size : Nat) : Int)) hs rfl rfl rfl rfl) rfl ?_
          refine zz ?_
          have hg := tgrow_spec (t := { t with count := t.count - 1 }) (md := md) hs hmd (by show 1 ≤ t.height; omega) (by show t.height ≤ 1000000; omega)
          refine MC.does true (does_call rfl (hg)) rfl ?_
          rintro _ w (⟨t3, s3, hm3, h3, h4, rfl, hs⟩ | ⟨e, s3, he, hm3, rfl, a', b', c', hs⟩)
          · obtain ⟨hgh, _⟩ := growM_height hm3
            have hgh : t3.height ≤ t.height + 1 := hgh
            have hsh := tshrink_spec hs h3 (by omega) h4 (hfit.leaf _ _ _ _ (by omega) hm2 rfl hm3)
            refine zz ?_
            refine MC.does true (does_call rfl (hsh)) rfl ?_
            rintro _ w (⟨t4, s4, hm4, rfl, hs⟩ | ⟨e, s4, he, hm4, rfl, a', b', c', hs⟩)
            · refine zz ?_
              refine MC.ret rfl ?_
              exact .inl ⟨(t4, true), s4, hmod _ _ (.inr ⟨(md, true), s2, hm2, .inr ⟨t3, s3, hm3, .inr ⟨t4, s4, hm4, rfl, rfl⟩⟩⟩), rfl, hs.pickF 5 [0, 1, 3] rfl rfl⟩
            · refine zz ?_
              refine MC.ret rfl ?_
              exact .inr ⟨e, s4, he, hmod _ _ (.inr ⟨(md, true), s2, hm2, .inr ⟨t3, s3, hm3, .inl ⟨e, hm4, rfl⟩⟩⟩), rfl, _, _, _, _, hs.pickF 5 [0, 1, 3] rfl rfl⟩
          · refine zz ?_
            refine MC.ret rfl ?_
            exact .inr ⟨e, s3, he, hmod _ _ (.inr ⟨(md, true), s2, hm2, .inl ⟨e, hm3, rfl⟩⟩), rfl, _, _, _, _, hs.pickF 5 [0, 1, 3] rfl rfl⟩
      · refine zz ?_
        refine MC.ret rfl ?_
        exact .inr ⟨e, s2, he, hmod _ _ (.inl ⟨e, hm2, rfl⟩), rfl, _, _, _, _, hs.pickF 3 [0, 1, 2] rfl rfl⟩
theorem tDel_spec {t : T} {key : Bs} {vk : Value} (hs : Sat (pgr z s none :: tbT z tp t :: F) w)
    (hkey : RdS F 1 vk key.length (bytesV key)) (hrt : t.root ≤ 100000) (hh : t.height ≤ 100000) (hct : t.count ≤ 1000000000) (hfit : Fit z.E s t key) :
    Ret Tryz.prog 13 [ptr tp, vk] w fun v w' =>
      (∃ t' s' is, delT z.E t key s (.ok (t', is)) s' ∧ v = .tuple #[bool is, int 0] ∧ Sat (pgr z s' none :: tbT z tp t' :: F) w') ∨
      (∃ e : Int, e ≠ 0 ∧ v = .tuple #[bool false, int e] ∧ Sat (pgr z s none :: tbT z tp t :: F) w') := by
  obtain ⟨qk, ck, rfl, _, _⟩ := hkey.shape
  refine Ret.enter [(true, ptr tp), (true, .slice qk key.length ck)] _ Tryz.func13 rfl Tryz.ntmps13 rfl ?_
  refine zz ?_
  refine MC.does true (does_box hs rfl rfl) rfl ?_; rintro _ w ⟨b0, rfl, hs⟩
  refine zz ?_
  refine MC.does true (does_box hs rfl rfl) rfl ?_; rintro _ w ⟨b2, rfl, hs⟩
  refine zz ?_
  have hf := fits_spec (tp := tp) (z := z) hs hkey.up
  refine MC.does true (does_call rfl (hf)) rfl ?_
  rintro _ _ ⟨rfl, rfl⟩
  by_cases hkl : 1 ≤ key.length ∧ key.length ≤ 64
  · rw [if_pos hkl]
    refine zz ?_
    refine MC.does true (does_alloc hs) rfl ?_; rintro _ w ⟨b7, rfl, hs⟩
    refine zz ?_
    refine MC.does true (does_store1 hs rfl rfl rfl (by first | decide | (simp; done) | (simp; omega))) rfl ?_; intro _ w hs
    refine zz ?_
    refine MC.pure (f := true) (po_makeFunc rfl rfl) rfl ?_
    refine zz ?_
    have hs := hs.pickF 5 [3, 4, 2, 1, 0] rfl rfl
    have hc := change_spec (f := 38) (cap := [ptr b0, ptr b2, ptr b7]) (KO := fun s' a b c F' => ∃ t' is, delT z.E t key s (.ok (t', is)) s' ∧ a = rootI t' ∧ b = ((t'.height : Nat) : Int) ∧ c = ((t'.count : Nat) : Int) ∧ F' = blk b7 [bool is] 4 :: F) (KE := fun F' => ∃ is, F' = blk b7 [bool is] 4 :: F) hs (fun m b4 b6 b8 b5 w1 hs1 => by
      have hs1 := hs1.pickF 9 [0, 1, 6, 7, 8, 2, 3, 4, 5] rfl rfl
      refine (tdel1_spec hs1 hkey.up (by omega) hrt hh hct hfit).mono ?_
      rintro v w' (⟨⟨t', is⟩, s', hm, rfl, hs⟩ | ⟨e, s', he, hm, rfl, a, b, c, t2, hs⟩)
      · exact .inl ⟨s', _, _, _, _, ⟨t', is, hm, rfl, rfl, rfl, rfl⟩, rfl, hs.pickF 7 [0, 1, 3, 4, 5, 6, 2] rfl rfl⟩
      · exact .inr ⟨e, s', a, b, c, _, ⟨t2, rfl⟩, he, rfl, hs.pickF 7 [0, 1, 3, 4, 5, 6, 2] rfl rfl⟩)
    refine MC.does true (does_call rfl (hc)) rfl ?_
    rintro _ w (⟨s', a, b, c, F', ⟨t', is, hm, rfl, rfl, rfl, rfl⟩, rfl, hs⟩ | ⟨e, F', ⟨is, rfl⟩, he, rfl, hs⟩)
    · refine zz ?_
      cases is with
      | true =>
        refine zz ?_
        refine MC.ret rfl ?_
        exact .inl ⟨t', s', true, hm, rfl, hs.pickF 3 [0, 1] rfl rfl⟩
      | false =>
        refine zz ?_
        refine MC.ret rfl ?_
        exact .inl ⟨t', s', false, hm, rfl, hs.pickF 3 [0, 1] rfl rfl⟩
    · refine zz ?_
      cases is with
      | true =>
        refine zz ?_
        refine MC.ret rfl ?_
        exact .inr ⟨e, he, (by rw [decide_eq_false he]; rfl), hs.pickF 3 [0, 1] rfl rfl⟩
      | false =>
        refine zz ?_
        refine MC.ret rfl ?_
        exact .inr ⟨e, he, rfl, hs.pickF 3 [0, 1] rfl rfl⟩
  · rw [if_neg hkl]
    refine zz ?_
    refine MC.ret rfl ?_
    exact .inr ⟨2, by decide, rfl, hs.pickF 4 [2, 3] rfl rfl⟩
end
end Go.Proofs.YtjlofdodiaklaaaGreat

namespace Go.Proofs.YtjlofdodiaklaaaGreat
open Go Go.Sl Go.Tr
attribute [local irreducible] LooksAt

section
variable {F : List Assn} {z : Pw} {s : St} {mk : Option (Nat × St)} {w : World} {tp : Nat}
theorem tNew_spec (hs : Sat (pgr z s none :: F) w) : Ret Tryz.prog 8 [ptr z.p] w fun v w' => ∃ tp, v = .tuple #[ptr tp, int 0] ∧ Sat (pgr z s none :: tb z tp (-1) 0 0 :: F) w' := by
  have hm := mark_spec hs
  refine Ret.enter [(true, ptr z.p)] _ Tryz.func8 rfl Tryz.ntmps8 rfl ?_
  refine zz ?_
  refine MC.does true (does_call rfl (hm)) rfl ?_
  rintro _ w ⟨m, rfl, hs⟩
  refine zz ?_
  refine MC.pure (f := true) (po_build (ls := [(0, [ptr z.p]), (1, [int (-1)])]) (out := [ptr z.p, int (-1), int 0, int 0]) rfl rfl ⟨⟨_, rfl, by simp⟩, ⟨_, rfl, by simp⟩, trivial⟩ rfl) rfl ?_
  refine zz ?_
  refine MC.does true (does_box hs rfl rfl) rfl ?_; rintro _ w ⟨tp, rfl, hs⟩
  refine zz ?_
  refine MC.ret rfl ?_
  exact ⟨tp, rfl, pgr_forget hs.swap⟩
theorem tOpen_spec {t : T} (hs : Sat (pgr z s none :: F) w) (h0 : t.height = 0 → t.count = 0) (h1 : 1 ≤ t.height → 1 ≤ t.count) (hh : t.height ≤ 100000) (hrt : t.root ≤ 100000) (hct : t.count ≤ 1000000000) :
    Ret Tryz.prog 21 [ptr z.p, int (rootI t), int ((t.height : Nat) : Int), int ((t.count : Nat) : Int)] w fun v w' => ∃ tp, v = .tuple #[ptr tp, int 0] ∧ Sat (pgr z s none :: tbT z tp t :: F) w' := by
  have hm := mark_spec hs
  by_cases hz : t.height = 0
  · have h0 := h0 hz
    have hR : rootI t = -1 := by unfold rootI; rw [if_pos hz]
    unfold tbT
    rw [hR, hz, h0]
    refine Ret.enter [(true, ptr z.p), (true, int (-1)), (true, int ((0 : Nat) : Int)), (true, int ((0 : Nat) : Int))] _ Tryz.func21 rfl Tryz.ntmps21 rfl ?_
    refine zz ?_
    refine MC.does true (does_call rfl (hm)) rfl ?_
    rintro _ w ⟨m, rfl, hs⟩
    refine zz ?_
    refine MC.splitB (t := 28) rfl (fun h => absurd h (by simp)) (fun _ => ?_)
    refine zz ?_
    refine MC.pure (f := true) (po_build (ls := [(0, [ptr z.p]), (1, [int (-1)]), (2, [int ((0 : Nat) : Int)]), (3, [int ((0 : Nat) : Int)])]) (out := [ptr z.p, int (-1), int ((0 : Nat) : Int), int ((0 : Nat) : Int)]) rfl rfl ⟨⟨_, rfl, by simp⟩, ⟨_, rfl, by simp⟩, ⟨_, rfl, by simp⟩, ⟨_, rfl, by simp⟩, trivial⟩ rfl) rfl ?_
    refine zz ?_
    refine MC.does true (does_box hs rfl rfl) rfl ?_; rintro _ w ⟨tp, rfl, hs⟩
    refine zz ?_
    refine MC.ret rfl ?_
    exact ⟨tp, rfl, pgr_forget hs.swap⟩
  · have h1 := h1 (by omega)
    have hR : rootI t = ((t.root : Nat) : Int) := by unfold rootI; rw [if_neg hz]
    unfold tbT
    rw [hR]
    refine Ret.enter [(true, ptr z.p), (true, int ((t.root : Nat) : Int)), (true, int ((t.height : Nat) : Int)), (true, int ((t.count : Nat) : Int))] _ Tryz.func21 rfl Tryz.ntmps21 rfl ?_
    refine zz ?_
    refine MC.does true (does_call rfl (hm)) rfl ?_
    rintro _ w ⟨m, rfl, hs⟩
    refine zz ?_
    refine MC.pure (f := true) (po_build (ls := [(0, [ptr z.p]), (1, [int ((t.root : Nat) : Int)]), (2, [int ((t.height : Nat) : Int)]), (3, [int ((t.count : Nat) : Int)])]) (out := [ptr z.p, int ((t.root : Nat) : Int), int ((t.height : Nat) : Int), int ((t.count : Nat) : Int)]) rfl rfl ⟨⟨_, rfl, by simp⟩, ⟨_, rfl, by simp⟩, ⟨_, rfl, by simp⟩, ⟨_, rfl, by simp⟩, trivial⟩ rfl) rfl ?_
    refine zz ?_
    refine MC.does true (does_box hs rfl rfl) rfl ?_; rintro _ w ⟨tp, rfl, hs⟩
    refine zz ?_
    refine MC.ret rfl ?_
    exact ⟨tp, rfl, pgr_forget hs.swap⟩
theorem tRoot_spec {a b c : Int} (hs : Sat (pgr z s mk :: tb z tp a b c :: F) w) : Ret Tryz.prog 47 [ptr tp] w fun v w' => v = int a ∧ w' = w := by
  have hn := tnone_spec (tp := tp) (z := z) hs
  refine Ret.enter [(true, ptr tp)] _ Tryz.func47 rfl Tryz.ntmps47 rfl ?_
  refine zz ?_
  refine MC.does true (does_call rfl (hn)) rfl ?_
  rintro _ _ ⟨rfl, rfl⟩
  refine zz ?_
  refine MC.ret rfl ?_
  exact ⟨rfl, rfl⟩
theorem tHeight_spec {a b c : Int} (hs : Sat (pgr z s mk :: tb z tp a b c :: F) w) : Ret Tryz.prog 48 [ptr tp] w fun v w' => v = int b ∧ w' = w := by
  have hn := tnone_spec (tp := tp) (z := z) hs
  refine Ret.enter [(true, ptr tp)] _ Tryz.func48 rfl Tryz.ntmps48 rfl ?_
  refine zz ?_
  refine MC.does true (does_call rfl (hn)) rfl ?_
  rintro _ _ ⟨rfl, rfl⟩
  refine zz ?_
  refine MC.ret rfl ?_
  exact ⟨rfl, rfl⟩
theorem tCount_spec {a b c : Int} (hs : Sat (pgr z s mk :: tb z tp a b c :: F) w) : Ret Tryz.prog 49 [ptr tp] w fun v w' => v = int c ∧ w' = w := by
  have hn := tnone_spec (tp := tp) (z := z) hs
  refine Ret.enter [(true, ptr tp)] _ Tryz.func49 rfl Tryz.ntmps49 rfl ?_
  refine zz ?_
  refine MC.does true (does_call rfl (hn)) rfl ?_
  rintro _ _ ⟨rfl, rfl⟩
  refine zz ?_
  refine MC.ret rfl ?_
  exact ⟨rfl, rfl⟩
def OutG (m : M (Option Bs)) (z : Pw) (s : St) (mk : Option (Nat × St)) (F : List Assn) : Value → World → Prop := Out m s
  (fun o s' v w => match o with
    | some b => ∃ vv, v = .tuple #[vv, bool true, int 0] ∧ Sat (sl vv 5 1 b.length (bytesV b) :: pgr z s' mk :: F) w
    | none => v = .tuple #[.slice none 0 0, bool false, int 0] ∧ Sat (pgr z s' mk :: F) w)
  (fun e s' v w => ∃ vv b, v = .tuple #[vv, bool b, int e] ∧ Sat (pgr z s' mk :: F) w)
theorem tGet_spec {t : T} {key : Bs} {vk : Value} (hs : Sat (pgr z s mk :: tbT z tp t :: F) w) (hkey : RdS F 1 vk key.length (bytesV key)) (hkl : 1 ≤ key.length ∧ key.length ≤ 64) (hrt : t.root ≤ 100000) (hh : t.height ≤ 100000) :
    Ret Tryz.prog 51 [ptr tp, vk] w (OutG (getT z.E t.height t.root key) z s mk (tbT z tp t :: F)) := by
  obtain ⟨qk, ck, rfl, _, _⟩ := hkey.shape
  have hf := fits_spec (tp := tp) (z := z) hs hkey.up
  rw [if_pos hkl] at hf
  refine Ret.enter [(true, ptr tp), (true, .slice qk key.length ck)] _ Tryz.func51 rfl Tryz.ntmps51 rfl ?_
  refine zz ?_
  refine MC.does true (does_call rfl (hf)) rfl ?_
  rintro _ _ ⟨rfl, rfl⟩
  refine zz ?_
  refine MC.loop (σ := Nat × Int × St) (fun x => [(0, true, ptr tp), (1, true, .slice qk key.length ck), (8, true, int x.2.1), (9, true, int ((x.1 : Nat) : Int))])
    (fun x w => x.1 ≤ 100000 ∧ (∃ page : Nat, (1 ≤ x.1 → x.2.1 = ((page : Nat) : Int) ∧ page ≤ 100000) ∧ ∀ r s2, getT z.E x.1 page key x.2.2 r s2 → getT z.E t.height t.root key s r s2) ∧ Sat (pgr z x.2.2 mk :: tbT z tp t :: F) w) (fun x => x.1) (t.height, rootI t, s) (by repeat (first | exact trivial | refine ⟨rfl, ?_⟩))
    ⟨hh, ⟨t.root, fun h => ⟨by show rootI t = _; unfold rootI; rw [if_neg (by have h : 1 ≤ t.height := h; omega)], hrt⟩, fun r s2 h => h⟩, hs⟩ ?_
  clear hs
  rintro ⟨hg, pg, s1⟩ w ⟨hgl, ⟨page, hpg, hgm⟩, hs⟩
  dsimp only [] at hgl hpg hgm hs ⊢
  cases hg with
  | zero =>
    refine zz ?_
    refine MC.ret rfl ?_
    exact .inl ⟨none, s1, hgm _ _ ⟨rfl, rfl⟩, rfl, hs⟩
  | succ hh' =>
    obtain ⟨rfl, hpl⟩ := hpg (by omega)
    have ecast : (((hh' + 1 : Nat)) : Int) = ((hh' : Nat) : Int) + 1 := by omega
    rw [ecast]
    have hlv := levelM_spec (tp := tp) (hh := hh') hs hpl
    refine zz ?_
    refine MC.does true (does_call rfl (hlv)) rfl ?_
    rintro _ w (⟨n, s', hm, hri, ⟨sk, sv, si, rk, rv⟩, pool, hin, hfew, rfl, hs⟩ | ⟨e, s', he, hm, lf, q1, n1, c1, q2, n2, c2, q3, n3, c3, rfl, hs⟩)
    · obtain ⟨e1, hlf⟩ := level_same hm
      obtain ⟨_, qk1, ck1, rfl, _⟩ := hs.tail.sl_len
      obtain ⟨_, qv1, cv1, rfl, _⟩ := hs.tail.tail.sl_len
      obtain ⟨_, qi1, ci1, rfl, _⟩ := hs.tail.tail.tail.sl_len
      have hs := hs.pickF 6 [4, 0, 1, 2, 3, 5] rfl rfl
      refine zz ?_
      refine MC.does true (does_alloc hs) rfl ?_; rintro _ w ⟨b10, rfl, hs⟩
      refine zz ?_
      refine MC.does true (does_store (vs := [bool n.leaf, .slice qk1 n.keys.length ck1, .slice qv1 n.vals.length cv1, .slice qi1 n.kids.length ci1]) hs rfl rfl rfl rfl (all1 rfl) (by simp)) rfl ?_; intro _ w hs; rw [splice_all (by rfl)] at hs
      refine zz ?_
      refine MC.la true (la_loadV (vs := [bool n.leaf, .slice qk1 n.keys.length ck1, .slice qv1 n.vals.length cv1, .slice qi1 n.kids.length ci1]) hs rfl rfl rfl rfl) rfl ?_
      refine zz ?_
      have hrd := hin.read (F := _) hfew hs.tail.tail
      have hfd := nfind_spec hs hrd.up (hkey.up)
      refine MC.does true (does_call rfl (hfd)) rfl ?_
      rintro _ w ⟨rfl, hs⟩
      obtain ⟨hfle, hfis⟩ := find_le (n := n) (key := key)
      have hmod : ∀ (r : Res (Option Bs)) (s2 : St), (if hh' = 0 then if (n.find key).2 then (valueM z.E (n.vals.getD (n.find key).1 [])).bind fun v => M.pure (some v) else M.pure none else getT z.E hh' (n.kids.getD (n.find key).1 0) key) s' r s2 → getT z.E t.height t.root key s r s2 := fun r s2 hr => hgm r s2 (by
        unfold getT
        exact .inr ⟨n, s', hm, hr⟩)
      generalize (n.find key).1 = i at *
      cases hh' with
      | zero =>
        rw [if_pos rfl] at hmod
        have hlf : n.leaf = true := hlf
        have h3 := hri.1.2.2
        rw [if_pos hlf] at h3
        obtain ⟨hvl, hk0, hv16⟩ := h3
        cases hbis : (n.find key).2 with
        | false =>
          rw [hbis] at hmod
          simp only [Bool.false_eq_true, if_false] at hmod
          refine zz ?_
          refine MC.ret rfl ?_
          exact .inl ⟨none, s', hmod _ _ ⟨rfl, rfl⟩, rfl, hs.pickF 7 [1, 6] rfl rfl⟩
        | true =>
          rw [hbis] at hmod hfis
          simp only [if_true] at hmod
          have hik := (hfis rfl).2
          have hiv : i < n.vals.length := by rw [hvl]; exact hik
          obtain ⟨vb, vo, vcc, q2, c3, hv1, hvg, hvr, hv2⟩ := hrd.vals.get hiv
          have hvg' : rv[((i : Nat) : Int).toNat * 1]? = some (.slice q2 n.vals[i].length c3) := by rw [Int.toNat_natCast, Nat.mul_one]; exact hvg
          have hv1' : qv1 = some ⟨vb, vo, none⟩ ∧ cv1 = vcc := by injection hv1 with h1 h2 h3; exact ⟨h1, h3⟩
          obtain ⟨rfl, rfl⟩ := hv1'
          have hvi16 := hv16 _ (List.getElem_mem hiv)
          have hgd : n.vals.getD i [] = n.vals[i] := getD_at hiv
          rw [hgd] at hmod
          refine zz ?_
          refine MC.la true (la_load1_rd hvr hs (j := ((i : Nat) : Int).toNat * 1) rfl hvg') rfl ?_
          refine zz ?_
          have hvs := tvalue_spec (tp := tp) (cell := n.vals[i]) hs.swap hv2.up (by omega)
          refine MC.does true (does_call rfl (hvs)) rfl ?_
          rintro _ w (⟨b, s2, hm2, vb2, rfl, hs⟩ | ⟨e, s2, he, hm2, vb2, rfl, hs⟩)
          · refine zz ?_
            refine MC.ret rfl ?_
            exact .inl ⟨some b, s2, hmod _ _ (.inr ⟨b, s2, hm2, rfl, rfl⟩), vb2, rfl, hs.pickF 8 [0, 1, 7] rfl rfl⟩
          · refine zz ?_
            refine MC.ret rfl ?_
            exact .inr ⟨e, s2, he, hmod _ _ (.inl ⟨e, hm2, rfl⟩), vb2, _, rfl, hs.pickF 7 [0, 6] rfl rfl⟩
      | succ h2 =>
        rw [if_neg (by omega)] at hmod
        have hlf : n.leaf = false := hlf
        have h3 := hri.1.2.2
        rw [if_neg (by rw [hlf]; decide)] at h3
        obtain ⟨hv0, hkk, hk8⟩ := h3
        have hiv : i < n.kids.length := by omega
        have hgd : n.kids.getD i 0 = n.kids[i] := by rw [List.getD_eq_getElem?_getD, List.getElem?_eq_getElem hiv]; rfl
        rw [hgd] at hmod
        have hk8i := hk8 _ (List.getElem_mem hiv)
        obtain ⟨kb, ko, hq, hkr⟩ := hrd.kids.at_ (by omega)
        subst hq
        have hat : (bufV n.kids)[((i : Nat) : Int).toNat * 1]? = some (int ((n.kids[i] : Nat) : Int)) := by
          rw [Int.toNat_natCast, Nat.mul_one]; simp [bufV, hiv]
        refine zz ?_
        refine MC.la true (la_load1_rd hkr hs (j := ((i : Nat) : Int).toNat * 1) rfl hat) rfl ?_
        refine zz ?_
        have e3 : (((h2 + 1 : Nat) : Int) + 1 - 1) = ((h2 + 1 : Nat) : Int) := by omega
        rw [e3]
        exact MC.again (h2 + 1, ((n.kids[i] : Nat) : Int), s') (by repeat (first | exact trivial | refine ⟨rfl, ?_⟩)) ⟨by omega, ⟨n.kids[i], fun _ => ⟨rfl, by omega⟩, hmod⟩, hs.pickF 7 [1, 6] rfl rfl⟩ (by show h2 + 1 < h2 + 1 + 1; omega)
    · refine zz ?_
      refine MC.does true (does_alloc hs) rfl ?_; rintro _ w ⟨b10, rfl, hs⟩
      refine zz ?_
      refine MC.does true (does_store (vs := [bool lf, .slice q1 n1 c1, .slice q2 n2 c2, .slice q3 n3 c3]) hs rfl rfl rfl rfl (all1 rfl) (by simp)) rfl ?_; intro _ w hs; rw [splice_all (by rfl)] at hs
      refine zz ?_
      refine MC.ret rfl ?_
      exact .inr ⟨e, s', he, hgm _ _ (by unfold getT; exact .inl ⟨e, hm, rfl⟩), _, _, rfl, hs.pickF 3 [1, 2] rfl rfl⟩
end
end Go.Proofs.YtjlofdodiaklaaaGreat

namespace Go.Pa
open Go.Tr
open Go.Proofs.YtjlofdodiaklaaaGreat (Deep Fit)

section
variable {E : En} {KK : List Nat} {s : St} {t : T} {l : List Pr} {key : Go.Tr.Bs} {F : List PA}
theorem deep_of : ∀ (h : Nat) {page : Nat} {l : List Pr} {F : List PA}, PS E KK (trA full h page l :: F) s → Deep E s h page
  | 0, _, _, _, _ => trivial
  | h + 1, page, l, F, a => fun n s' hl => by
    obtain ⟨m, hr, hf, a⟩ := tr_ps.1 a
    obtain ⟨ks, hm, rfl, hsp, a2⟩ := kids_ps.1 (a.pickF 2 [1, 0] rfl rfl)
    have hlf : m.leaf = false := by rw [hm]
    obtain ⟨_, e | ⟨_, e, he⟩⟩ := level_gets a hr hlf _ _ hl
    · cases e
      refine ⟨?_, fun k hk => ?_⟩
      · rcases Nat.eq_zero_or_pos n.keys.length with h0 | h0
        · exact absurd (List.eq_nil_of_length_eq_zero h0) hf
        · exact h0
      · have hk : k ∈ ks.map (·.1) := by rw [hm] at hk; exact hk
        obtain ⟨x, hx, rfl⟩ := List.mem_map.1 hk
        obtain ⟨A, C, rfl⟩ := List.append_of_mem hx
        exact deep_of h (kidA_mid.1 a2)
    · cases he
theorem root_leaf {P : Nd → Prop} {h page : Nat} (a : PS E KK (trA P h page l :: F) s) {n : Nd} {s' : St} (hn : nodeM E page s (.ok n) s') : n.leaf = decide (h + 1 = 1) := by
  obtain ⟨m, hr, _, a⟩ := tr_ps.1 a
  obtain ⟨_, e | ⟨_, e, he⟩⟩ := node_gets a hr _ _ hn
  · cases e
    cases h with
    | zero =>
      obtain ⟨es, hm, _, _⟩ := leaf_ps.1 (a.pickF 2 [1, 0] rfl rfl)
      rw [hm]; rfl
    | succ h =>
      obtain ⟨ks, hm, _, _, _⟩ := kids_ps.1 (a.pickF 2 [1, 0] rfl rfl)
      rw [hm]
      exact (decide_eq_false (by omega)).symm
  · cases he
theorem fit_of (hl : Holds t l) (a : PS E KK (trT t l :: F) s) : Fit E s t key where
  deep h h5 := deep_of h ((trT_succ h5).1 a)
  one x s1 h1 hm hx := by
    obtain ⟨h, h5⟩ : ∃ h, t.height = h + 1 := ⟨t.height - 1, by omega⟩
    rw [h5] at hm
    obtain ⟨h2, _⟩ := remove_ok h ((trT_succ h5).1 a) _ _ hm
    rw [hl.cnt]
    exact hasK_len (by rw [← h2]; exact hx)
  leaf x s1 t2 s2 h1 hm hx hg n s' hn := by
    obtain ⟨h, h5⟩ : ∃ h, t.height = h + 1 := ⟨t.height - 1, by omega⟩
    rw [h5] at hm
    obtain ⟨h2, h3⟩ := remove_ok h ((trT_succ h5).1 a) _ _ hm
    rw [if_pos hx] at h3
    obtain ⟨_, h', h6, h7⟩ := grow_ok (t := { t with count := t.count - 1 }) (fun n hn hk => absurd hk hn) h5 h3 _ _ hg
    rw [h6]
    exact root_leaf h7 hn
end
end Go.Pa

namespace Go.Proofs.YtjlofdodiaklaaaGreat
open Go Go.Sl Go.Tr
attribute [local irreducible] LooksAt

theorem less_eq : ∀ l m : List UInt8, Op.bytesLess l m = ltB l m
  | [], [] => rfl
  | _ :: _, [] => rfl
  | [], _ :: _ => rfl
  | a :: x, b :: y => by
    unfold Op.bytesLess ltB
    rw [less_eq x y]
    by_cases h1 : a.toNat < b.toNat
    · have : a < b := h1
      rw [if_pos h1, decide_eq_true this]; rfl
    · have h1' : ¬ a < b := h1
      rw [if_neg h1, decide_eq_false h1', Bool.false_or]
      by_cases h2 : b.toNat < a.toNat
      · have : a ≠ b := fun h => by subst h; omega
        rw [if_pos h2]
        simp [this]
      · have : a = b := UInt8.toNat_inj.1 (by omega)
        rw [if_neg h2]
        simp [this]
theorem br_slss {P : Program} {t : TypeId} {l m : List UInt8} : Bin P .lss t (str l) (str m) (.bool (ltB l m)) := fun _ _ w => by
  simp [eqGuard, binOp, Op.stringOp, bytes_toList, less_eq]
def pairsV (l : List (Bs × Bs)) : List Value := l.flatMap fun p => [str p.1, str p.2]
theorem pairsV_at : ∀ {l : List (Bs × Bs)} {i : Nat} (h : i < l.length), (pairsV l)[i * 2]? = some (str l[i].1) ∧ (pairsV l)[i * 2 + 1]? = some (str l[i].2)
  | p :: l, 0, _ => ⟨rfl, rfl⟩
  | p :: l, i + 1, h => by
    have := pairsV_at (l := l) (i := i) (by simpa using h)
    rw [show (i + 1) * 2 = i * 2 + 2 by omega, show i * 2 + 2 + 1 = i * 2 + 1 + 2 by omega]
    exact this
theorem pairsV_append (l m : List (Bs × Bs)) : pairsV (l ++ m) = pairsV l ++ pairsV m := by
  unfold pairsV; rw [List.flatMap_append]
theorem pairsV_take : ∀ (l : List (Bs × Bs)) (n : Nat), (pairsV l).take (n * 2) = pairsV (l.take n)
  | [], n => by simp [pairsV]
  | p :: l, 0 => by simp [pairsV]
  | p :: l, n + 1 => by
    have := pairsV_take l n
    show (str p.1 :: str p.2 :: pairsV l).take ((n + 1) * 2) = str p.1 :: str p.2 :: pairsV (l.take n)
    rw [show (n + 1) * 2 = n * 2 + 1 + 1 by omega, List.take_succ_cons, List.take_succ_cons, this]
theorem pairsV_drop : ∀ (l : List (Bs × Bs)) (n : Nat), (pairsV l).drop (n * 2) = pairsV (l.drop n)
  | [], n => by simp [pairsV]
  | p :: l, 0 => by simp [pairsV]
  | p :: l, n + 1 => by
    have := pairsV_drop l n
    show (str p.1 :: str p.2 :: pairsV l).drop ((n + 1) * 2) = pairsV (l.drop n)
    rw [show (n + 1) * 2 = n * 2 + 1 + 1 by omega, List.drop_succ_cons, List.drop_succ_cons, this]
theorem pairsV_one (l : List (Bs × Bs)) : ∀ u ∈ pairsV l, u.oneCell' = true := fun u hu => by
  obtain ⟨p, _, h⟩ := List.mem_flatMap.1 hu
  rcases List.mem_cons.1 h with h | h
  · rw [h]; rfl
  · rw [List.mem_singleton.1 h]; rfl
def beforeK (l : List (Bs × Bs)) (key : Bs) : Nat := (l.takeWhile fun p => ltB p.1 key).length
theorem beforeK_eq : ∀ {l : List (Bs × Bs)} {key : Bs} {n : Nat}, n ≤ l.length → (∀ i (h : i < l.length), i < n → ltB l[i].1 key = true) → (∀ h : n < l.length, ltB l[n].1 key = false) → beforeK l key = n
  | [], key, n, h1, _, _ => by simp at h1; subst h1; rfl
  | p :: l, key, 0, _, _, h3 => by
    have := h3 (by simp)
    unfold beforeK
    rw [List.takeWhile_cons_of_neg (by rw [show ltB p.1 key = false from this]; decide)]; rfl
  | p :: l, key, n + 1, h1, h2, h3 => by
    have e := h2 0 (by simp) (by omega)
    have ih := beforeK_eq (l := l) (key := key) (n := n) (by simpa using h1) (fun i h hi => h2 (i + 1) (by simpa using h) (by omega)) (fun h => h3 (by simpa using h))
    unfold beforeK at ih ⊢
    rw [List.takeWhile_cons_of_pos (by exact e), List.length_cons, ih]
section
variable {F : List Assn} {w : World}
theorem lfind_spec {l : List (Bs × Bs)} {vl : Value} {key : Bs} (hs : Sat F w) (hl : RdS F 2 vl l.length (pairsV l)) (hn : l.length ≤ 100000) :
    Ret Tryz.prog 37 [vl, str key] w fun v w' => v = int ((beforeK l key : Nat) : Int) ∧ Sat F w' := by
  obtain ⟨p, c, rfl, _, _⟩ := hl.shape
  refine Ret.enter [(true, .slice p l.length c), (true, str key)] _ Tryz.func37 rfl Tryz.ntmps37 rfl ?_
  refine zz ?_
  refine MC.loop (σ := Nat) (fun i => [(0, true, .slice p l.length c), (1, true, str key), (5, true, int ((i : Nat) : Int))])
    (fun i w => i ≤ l.length ∧ (∀ j (h : j < l.length), j < i → ltB l[j].1 key = true) ∧ Sat F w) (fun i => l.length - i) 0 (by repeat (first | exact trivial | refine ⟨rfl, ?_⟩)) ⟨Nat.zero_le _, fun j h hj => by omega, hs⟩ ?_
  clear hs
  rintro i w ⟨hi, hlt, hs⟩
  dsimp only [] at hi hlt hs ⊢
  by_cases h : i < l.length
  · obtain ⟨lb, lo, rfl, hrl⟩ := hl.at_ (by omega)
    have hat : (pairsV l)[((i : Nat) : Int).toNat * 2]? = some (str l[i].1) := by rw [Int.toNat_natCast]; exact (pairsV_at h).1
    refine zz ?_
    refine MC.la true (la_load1_rd hrl hs (j := ((i : Nat) : Int).toNat * 2) rfl hat) rfl ?_
    refine zz ?_
    refine MC.pure (f := true) (po_bin rfl rfl br_slss) rfl ?_
    cases hb : ltB l[i].1 key with
    | true =>
      refine zz ?_
      exact MC.again (i + 1) (by repeat (first | exact trivial | refine ⟨rfl, ?_⟩)) ⟨h, fun j h' hj => by
        rcases Nat.lt_or_ge j i with h2 | h2
        · exact hlt j h' h2
        · obtain rfl : j = i := by omega
          exact hb, hs⟩ (by omega)
    | false =>
      refine zz ?_
      refine MC.ret rfl ?_
      exact ⟨by rw [beforeK_eq hi hlt (fun _ => hb)]; rfl, hs⟩
  · refine zz ?_
    refine MC.ret rfl ?_
    exact ⟨by rw [beforeK_eq hi hlt (fun h' => absurd h' h)]; rfl, hs⟩
def delP (l : List (Bs × Bs)) (key : Bs) : List (Bs × Bs) := if (l[beforeK l key]?).map (·.1) = some key then l.take (beforeK l key) ++ l.drop (beforeK l key + 1) else l
def hasP (l : List (Bs × Bs)) (key : Bs) : Bool := decide ((l[beforeK l key]?).map (·.1) = some key)
theorem lDel_spec {l : List (Bs × Bs)} {vl : Value} {key : Bs} (hs : Sat F w) (hl : RdS F 2 vl l.length (pairsV l)) (hn : l.length ≤ 100000) :
    Ret Tryz.prog 14 [vl, str key] w fun v w' => ∃ v1, v = .tuple #[v1, bool (hasP l key)] ∧
      if hasP l key = true then Sat (sl v1 106 2 (delP l key).length (pairsV (delP l key)) :: F) w' else v1 = vl ∧ delP l key = l ∧ Sat F w' := by
  have hf := lfind_spec (key := key) hs hl hn
  obtain ⟨p, c, rfl, hcap, _⟩ := hl.shape
  refine Ret.enter [(true, .slice p l.length c), (true, str key)] _ Tryz.func14 rfl Tryz.ntmps14 rfl ?_
  refine zz ?_
  refine MC.does true (does_call rfl (hf)) rfl ?_
  rintro _ w ⟨rfl, hs⟩
  have hble : beforeK l key ≤ l.length := by unfold beforeK; exact (List.takeWhile_sublist _).length_le
  obtain ⟨i, hi⟩ : ∃ i, i = beforeK l key := ⟨_, rfl⟩
  unfold hasP delP
  rw [← hi] at hble ⊢
  by_cases hil : i = l.length
  · have hno : ¬ (l[i]?).map (·.1) = some key := by rw [List.getElem?_eq_none (by omega)]; simp
    rw [decide_eq_false hno, if_neg hno]
    refine zz ?_
    refine MC.ret rfl ?_
    refine ⟨_, rfl, ?_⟩
    rw [if_neg Bool.false_ne_true]
    exact ⟨rfl, rfl, hs⟩
  · have hlt : i < l.length := by omega
    have hgi : l[i]? = some l[i] := List.getElem?_eq_getElem hlt
    obtain ⟨lb, lo, rfl, hrl⟩ := hl.at_ (by omega)
    have hat : (pairsV l)[((i : Nat) : Int).toNat * 2]? = some (str l[i].1) := by rw [Int.toNat_natCast]; exact (pairsV_at hlt).1
    refine zz ?_
    refine MC.la true (la_load1_rd hrl hs (j := ((i : Nat) : Int).toNat * 2) rfl hat) rfl ?_
    refine zz ?_
    by_cases hk : l[i].1 = key
    · have hyes : (l[i]?).map (·.1) = some key := by rw [hgi]; simp [hk]
      rw [decide_eq_true hyes, if_pos hyes]
      refine MC.cond rfl (fun h => absurd hk h) (fun _ => ?_)
      refine zz ?_
      refine MC.draw hs [1, 2, 3, 5, 6, 7, 8, 0, 4, 9, 10, 11] (by rfl) ?_; intro w hs
      refine zd ?_
      refine MC.pure (f := true) (po_slice_hi (b := i) rfl rfl (by omega)) rfl ?_
      refine zd ?_
      refine MC.pure (f := true) (po_slice_lo (a := i + 1) rfl (by rfl) (by omega)) rfl ?_
      refine zd ?_
      refine MC.doesK true (does_buildSlice0 hs) rfl rfl rfl ?_; rintro _ w ⟨b0, rfl, hs⟩; refine zh ?_
      have hs := Sat.sl_mk (size := 2) (n := 0) (c := 0) (xs := []) (spare := []) hs (Nat.le_refl _) rfl rfl
      refine zd ?_
      refine MC.doesK true (does_append hs rfl rfl (RdS.src (hl.takeL (b := i) (by omega)) (fun u hu => pairsV_one l u (List.mem_of_mem_take hu))) (by omega) (by omega)) rfl rfl rfl ?_
      intro v1 w hs
      refine zh ?_
      refine zd ?_
      refine MC.doesK true (does_append hs rfl rfl (RdS.src (hl.dropL (a := i + 1) (by omega)) (fun u hu => pairsV_one l u (List.mem_of_mem_drop hu))) (by omega) (by omega)) rfl rfl rfl ?_
      intro v2 w hs
      refine zh ?_
      refine zz ?_
      refine MC.ret rfl ?_
      refine ⟨v2, rfl, ?_⟩
      rw [if_pos rfl, pairsV_append, ← pairsV_take, ← pairsV_drop]
      have el : (l.take i ++ l.drop (i + 1)).length = 0 + i + (l.length - (i + 1)) := by rw [List.length_append, List.length_take, List.length_drop]; omega
      rw [el]
      exact hs
    · have hno : ¬ (l[i]?).map (·.1) = some key := by rw [hgi]; simp [hk]
      rw [decide_eq_false hno, if_neg hno]
      refine MC.cond rfl (fun _ => ?_) (fun h => absurd hk h)
      refine zz ?_
      refine MC.ret rfl ?_
      refine ⟨_, rfl, ?_⟩
      rw [if_neg Bool.false_ne_true]
      exact ⟨rfl, rfl, hs⟩
end
end Go.Proofs.YtjlofdodiaklaaaGreat

namespace Go.Pa
open Go.Tr

section
variable {E : En} {KK : List Nat} {s s' : St} {t t' : T} {l : List Pr} {F : List PA}
theorem full_ne : ∀ (h : Nat) {page : Nat} {l : List Pr} {F : List PA}, PS E KK (trA full h page l :: F) s → l ≠ []
  | 0, page, l, F, a => by
    obtain ⟨m, hr, hf, a⟩ := tr_ps.1 a
    obtain ⟨es, hm, rfl, _⟩ := leaf_ps.1 (a.pickF 2 [1, 0] rfl rfl)
    intro e
    have : es = [] := List.map_eq_nil_iff.1 e
    subst this
    exact hf (by rw [hm]; rfl)
  | h + 1, page, l, F, a => by
    obtain ⟨m, hr, hf, a⟩ := tr_ps.1 a
    obtain ⟨ks, hm, rfl, hsp, a2⟩ := kids_ps.1 (a.pickF 2 [1, 0] rfl rfl)
    have hl := seps_len hsp
    rw [List.length_map] at hl
    cases ks with
    | nil => simp at hl
    | cons x ks =>
      have h1 := full_ne h (kidA_mid (A := []) (C := ks) (x := x).1 a2)
      intro e
      unfold flat at e
      rw [List.map_cons, List.flatten_cons] at e
      exact h1 (List.append_eq_nil_iff.1 e).1
theorem rd_kind {k : Nat} {b : Go.Tr.Bs} (h : rd E s k = some b) : k < E.frm + s.kinds.length ∧ E.frm ≤ k := by
  unfold rd at h
  have : s.kind E k ≠ none := by
    intro e
    rw [e] at h
    simp at h
  unfold St.kind at this
  by_cases hk : k < E.frm
  · rw [if_pos hk] at this; exact absurd rfl this
  · rw [if_neg hk] at this
    have : k - E.frm < s.kinds.length := by
      rcases Nat.lt_or_ge (k - E.frm) s.kinds.length with h | h
      · exact h
      · exact absurd (List.getElem?_eq_none h) this
    omega
theorem root_lt {P : Nd → Prop} {h page : Nat} (a : PS E KK (trA P h page l :: F) s) : page < E.frm + s.kinds.length := by
  obtain ⟨m, _, _, a⟩ := tr_ps.1 a
  exact (rd_kind a.1.pg_get).1
theorem tree_small (hl : Holds t l) (a : PS E KK (trT t l :: F) s) : (t.height = 0 → t.count = 0) ∧ (1 ≤ t.height → 1 ≤ t.count ∧ t.root < E.frm + s.kinds.length) := by
  refine ⟨fun h0 => ?_, fun h1 => ?_⟩
  · obtain ⟨rfl, _⟩ := (trT_zero h0).1 a
    rw [hl.cnt]; rfl
  · obtain ⟨h, h5⟩ : ∃ h, t.height = h + 1 := ⟨t.height - 1, by omega⟩
    have a := (trT_succ h5).1 a
    refine ⟨?_, root_lt a⟩
    rw [hl.cnt]
    exact List.length_pos_iff.2 (full_ne h a)
open Go.Proofs.YtjlofdodiaklaaaGreat (growM_height) in
theorem putT_height {key value : Go.Tr.Bs} (h : putT E t key value s (.ok t') s') : t'.height ≤ t.height + 1 := by
  rcases h with ⟨e, _, h⟩ | ⟨cell, s1, _, h⟩
  · cases h
  · skip
    by_cases h0 : t.height = 0
    · rw [if_pos h0] at h
      rcases h with ⟨e, _, h⟩ | ⟨k, s2, _, h, _⟩
      · cases h
      · cases h; show 1 ≤ _; omega
    · rw [if_neg h0] at h
      rcases h with ⟨e, _, h⟩ | ⟨x, s2, _, h⟩
      · cases h
      · exact (growM_height h).1
open Go.Proofs.YtjlofdodiaklaaaGreat (growM_height) in
theorem delT_height {key : Go.Tr.Bs} {is : Bool} (h : delT E t key s (.ok (t', is)) s') : t'.height ≤ t.height + 1 := by
  unfold delT at h
  by_cases h0 : t.height = 0
  · rw [if_pos h0] at h
    obtain ⟨h, _⟩ := h
    cases h; omega
  · rw [if_neg h0] at h
    rcases h with ⟨e, _, h⟩ | ⟨x, s1, _, h⟩
    · cases h
    · split at h
      · rcases h with ⟨e, _, h⟩ | ⟨t2, s2, hg, h⟩
        · cases h
        · have hg := (growM_height hg).1
          rcases h with ⟨e, _, h⟩ | ⟨t3, s3, hsh, h, _⟩
          · cases h
          · cases h
            rcases hsh with ⟨e, _, h⟩ | ⟨n, s4, _, h⟩
            · cases h
            · split at h
              · obtain ⟨h, _⟩ := h; cases h; exact hg
              · rcases h with ⟨e, _, h⟩ | ⟨_, s5, _, h, _⟩
                · cases h
                · cases h
                  show t2.height - 1 ≤ _
                  have hg : t2.height ≤ t.height + 1 := hg
                  omega
      · obtain ⟨h, _⟩ := h
        cases h; omega
end
end Go.Pa
