/-
  Trees: renew
-/
import Derived.Test.YtjlofdodiaklaaaGreatYba
import Derived.Test.YtjlofdodiaklaaaGreatYan
set_option maxHeartbeats 1000000
set_option linter.unusedVariables false
set_option linter.unusedSimpArgs false
namespace Go.Proofs.YtjlofdodiaklaaaGreat
open Go Go.Sl Go.Tr
attribute [local irreducible] LooksAt

theorem inp_ins {pool : List (Value × Bs)} {rs : List Value} {ks : List Bs} {i : Nat} {u : Value} {k : Bs} (h : Inp pool rs ks) (hi : i ≤ ks.length) : Inp (pool ++ [(u, k)]) (rs.insertIdx i u) (ks.insertIdx i k) := by
  obtain ⟨h1, h2⟩ := h
  refine ⟨by rw [List.length_insertIdx_of_le_length (by omega), List.length_insertIdx_of_le_length hi, h1], fun j k' hk => ?_⟩
  rw [ins_at hi] at hk
  rw [ins_at (by omega)]
  rcases Nat.lt_trichotomy j i with hj | hj | hj
  · rw [List.getElem?_append_left (by rw [List.length_take]; omega), List.getElem?_take, if_pos hj] at hk
    obtain ⟨u', g1, g2⟩ := h2 j k' hk
    exact ⟨u', by rw [List.getElem?_append_left (by rw [List.length_take]; omega), List.getElem?_take, if_pos hj]; exact g1, List.mem_append_left _ g2⟩
  · subst hj
    have e1 : (ks.take j).length = j := by rw [List.length_take]; omega
    have e2 : (rs.take j).length = j := by rw [List.length_take]; omega
    rw [List.getElem?_append_right (by omega), e1, Nat.sub_self] at hk
    cases hk
    exact ⟨u, by rw [List.getElem?_append_right (by omega), e2, Nat.sub_self]; rfl, List.mem_append_right _ (List.mem_singleton.2 rfl)⟩
  · have e1 : (ks.take i).length = i := by rw [List.length_take]; omega
    have e2 : (rs.take i).length = i := by rw [List.length_take]; omega
    have e3 : j - i = (j - 1 - i) + 1 := by omega
    rw [List.getElem?_append_right (by omega), e1, e3, List.getElem?_cons_succ, List.getElem?_drop] at hk
    obtain ⟨u', g1, g2⟩ := h2 _ k' hk
    exact ⟨u', by rw [List.getElem?_append_right (by omega), e2, e3, List.getElem?_cons_succ, List.getElem?_drop]; exact g1, List.mem_append_left _ g2⟩
section
variable {F : List Assn} {G : List Value → List Assn} {z : Pw} {s : St} {mk : Option (Nat × St)} {w : World} {tp : Nat} {r h c : Value}
theorem ints_open {l : List Assn} {v : Value} {n : Nat} {xs : List Nat} (hs : Sat (sl v 3 1 n (bufV xs) :: l) w) (h0 : 0 < n) : ∃ b c sp, v = .slice (some ⟨b, 0, none⟩) n c ∧ n ≤ c ∧ xs.length = n ∧ xs.length + sp.length = c ∧ Sat (blk b (bufV xs ++ sp) 3 :: l) w := by
  rcases hs.sl_cases with ⟨_, h, _⟩ | ⟨b, c, sp, rfl, h1, h2, h3, hs⟩
  · omega
  · rw [bufV_length] at h2 h3
    exact ⟨b, c, sp, rfl, h1, by omega, by omega, hs⟩
theorem ints_shut {l : List Assn} {b c n : Nat} {xs : List Nat} {sp : List Value} (hs : Sat (blk b (bufV xs ++ sp) 3 :: l) w) (hn : xs.length = n) (hc : n ≤ c) (hsp : n + sp.length = c) : Sat (sl (.slice (some ⟨b, 0, none⟩) n c) 3 1 n (bufV xs) :: l) w :=
  Sat.sl_mk hs hc (by rw [bufV_length]; omega) (by rw [bufV_length]; omega)
def renewed (n : Nd) (i : Nat) (md : Md) : Nd := match md.other with
  | none => { n with kids := n.kids.set i md.page }
  | some o => { n with keys := n.keys.insertIdx i md.key, kids := (n.kids.set i md.page).insertIdx (i + 1) o }
theorem renewM_else {E : En} {page i : Nat} {n : Nd} {md : Md} (h : ¬ (n.kids.getD i 0 = md.page ∧ md.other = none)) : renewM E page n i md = saveM E page (renewed n i md) := by
  obtain ⟨p, o, k, sz⟩ := md
  unfold renewM renewed
  rw [if_neg h]
  cases o <;> rfl
theorem bufV_ins {l : List Nat} {i o : Nat} (h : i ≤ l.length) : (bufV l).insertIdx i (int ((o : Nat) : Int)) = bufV (l.insertIdx i o) := by
  rw [ins_at (by rw [bufV_length]; exact h), ins_at h]
  simp [bufV, List.map_take, List.map_drop]
theorem trenew_spec {y : NdV} {n : Nd} {pool : List (Value × Bs)} {md : Md} {vk : Value} {page i : Nat} (hs : Sat (pgr z s mk :: sl vk 5 1 md.key.length (bytesV md.key) :: ndP pool y n F) w) [hA : At F tp [ptr z.p, r, h, c] 89 G]
    (hin : NdIn pool y n) (hfew : Few n) (hi : i < n.kids.length) (hik : i ≤ n.keys.length) (hmd : MdOk md) (hp : page ≤ 100000) :
    Ret Tryz.prog 73 [ptr tp, int ((page : Nat) : Int), y.val n, int ((i : Nat) : Int), .agg (mdC ((md.page : Nat) : Int) (pageI md.other) vk ((md.size : Nat) : Int)).toArray] w (OutMd (renewM z.E page n i md) z s mk F) := by
  obtain ⟨sk, sv, si, rk, rv⟩ := y
  obtain ⟨_, qm, cm, rfl, _⟩ := hs.tail.sl_len
  obtain ⟨_, qk, ck, rfl, _⟩ := hs.tail.tail.tail.sl_len
  obtain ⟨_, qv, cv, rfl, _⟩ := hs.tail.tail.tail.tail.sl_len
  have hs := hs.pickF 6 [5, 0, 1, 2, 3, 4] rfl rfl
  obtain ⟨bi, ci, sp, rfl, hci, hkl, hsp, hs⟩ := ints_open hs (by omega)
  obtain ⟨hmp, hmo, hms, hmk⟩ := hmd
  have hf1 := hfew.keys
  have hf3 := hfew.kids
  refine Ret.enter [(true, ptr tp), (true, int ((page : Nat) : Int)), (true, .agg [bool n.leaf, .slice qk n.keys.length ck, .slice qv n.vals.length cv, .slice (some ⟨bi, 0, none⟩) n.kids.length ci].toArray), (true, int ((i : Nat) : Int)), (true, .agg (mdC ((md.page : Nat) : Int) (pageI md.other) (.slice qm md.key.length cm) ((md.size : Nat) : Int)).toArray)] _ Tryz.func73 rfl Tryz.ntmps73 rfl ?_
  refine zz ?_
  refine MC.does true (does_box hs rfl rfl) rfl ?_; rintro _ w ⟨b7, rfl, hs⟩
  refine zz ?_
  refine MC.does true (does_box hs rfl rfl) rfl ?_; rintro _ w ⟨b9, rfl, hs⟩
  refine zz ?_
  refine MC.does true (does_alloc hs) rfl ?_; rintro _ w ⟨b10, rfl, hs⟩
  have hat : (bufV n.kids ++ sp)[0 + ((i : Nat) : Int).toNat * 1]? = some (int ((n.kids[i] : Nat) : Int)) := by
    rw [Int.toNat_natCast, Nat.zero_add, Nat.mul_one, List.getElem?_append_left (by rw [bufV_length]; omega)]; simp [bufV, hi]
  have hgd : n.kids.getD i 0 = n.kids[i] := by rw [List.getD_eq_getElem?_getD, List.getElem?_eq_getElem hi]; rfl
  have hone : ∀ u ∈ rk, u.oneCell' = true := (hin.read hfew (ints_shut (hs.pickF 9 [3, 4, 5, 6, 7, 8, 2, 0, 1] rfl rfl) rfl hci (by omega) |>.pickF 9 [3, 4, 5, 0, 1, 2, 6, 7, 8] rfl rfl)).keys.one
  obtain ⟨mpage, mother, mkey, msize⟩ := md
  dsimp only [] at hmp hmo hms hmk hs ⊢
  by_cases heq : n.kids[i] = mpage ∧ mother = none
  · obtain ⟨he, rfl⟩ := heq
    dsimp only [pageI] at hs ⊢
    refine zz ?_
    refine MC.draw hs [0, 1, 2, 3, 4, 5, 6, 7, 8, 9, 10, 11, 12] (by rfl) ?_; intro w hs
    refine zd ?_
    refine MC.laD true (la_load1 hs rfl hat) rfl ?_
    refine zd ?_
    have hs := ints_shut (hs.pickF 9 [3, 4, 5, 6, 7, 8, 2, 0, 1] rfl rfl) rfl hci (by omega)
    have hs := hs.pickF 9 [3, 4, 5, 0, 1, 2, 6, 7, 8] rfl rfl
    have hrd := hin.read (F := _) hfew hs
    refine zz ?_
    refine MC.la true (la_loadV (vs := [bool n.leaf, .slice qk n.keys.length ck, .slice qv n.vals.length cv, .slice (some ⟨bi, 0, none⟩) n.kids.length ci]) hs rfl rfl rfl rfl) rfl ?_
    have hszl := size_le hrd
    have hcall := nsize_spec hs hrd
    refine MC.does true (does_call rfl (hcall)) rfl ?_
    rintro _ w ⟨rfl, hs⟩
    refine MC.pure (f := true) (po_build (ls := [(0, [int ((page : Nat) : Int)]), (1, [int (-1)]), (3, [int ((n.size : Nat) : Int)])]) (out := mdC ((page : Nat) : Int) (-1) (.slice none 0 0) ((n.size : Nat) : Int)) rfl rfl ⟨⟨_, rfl, by simp⟩, ⟨_, rfl, by simp⟩, ⟨_, rfl, by simp⟩, trivial⟩ rfl) rfl ?_
    refine zz ?_
    refine MC.does true (does_store (vs := mdC ((page : Nat) : Int) (-1) (.slice none 0 0) ((n.size : Nat) : Int)) hs rfl rfl rfl rfl (all1 rfl) (by simp)) rfl ?_; intro _ w hs; rw [splice_all (by rfl)] at hs
    refine zz ?_
    refine MC.retR (vs := [.agg (mdC ((page : Nat) : Int) (-1) (.slice none 0 0) ((n.size : Nat) : Int)).toArray, int 0]) ⟨⟨⟨b10, 0, none⟩, rfl, load_cellA hs rfl⟩, rfl, trivial⟩ ?_
    refine .inl ⟨⟨page, none, [], n.size⟩, s, ?_, ⟨hp, fun o h => (by cases h), by show n.size ≤ _; omega, Nat.zero_le _⟩, .slice none 0 0, rfl, (hs.pickF 9 [4] rfl rfl).sl_nil _ _⟩
    unfold renewM
    rw [if_pos ⟨by rw [hgd]; exact he, rfl⟩]
    exact ⟨rfl, rfl⟩
  · have hrenew := renewM_else (E := z.E) (page := page) (n := n) (i := i) (md := ⟨mpage, mother, mkey, msize⟩) (fun h => heq ⟨by rw [← hgd]; exact h.1, h.2⟩)
    rw [hrenew]
    clear hrenew
    refine zz ?_
    refine MC.draw hs [0, 1, 2, 3, 4, 5, 6, 7, 8, 9, 10, 11, 12] (by rfl) ?_; intro w hs
    refine MC.cutAtS 1 (σ := Unit) (fun _ => [(0, true, ptr tp), (1, true, int ((page : Nat) : Int)), (3, true, int ((i : Nat) : Int)), (7, true, ptr b7), (9, true, ptr b9), (10, true, ptr b10), (24, true, bool false)]) (fun _ w => Sat (blk b10 (mdC 0 0 (.slice none 0 0) 0) 99 :: blk b9 (mdC ((mpage : Nat) : Int) (pageI mother) (.slice qm mkey.length cm) ((msize : Nat) : Int)) 99 :: blk b7 [bool n.leaf, .slice qk n.keys.length ck, .slice qv n.vals.length cv, .slice (some ⟨bi, 0, none⟩) n.kids.length ci] 97 :: blk bi (bufV n.kids ++ sp) 3 :: pgr z s mk :: sl (.slice qm mkey.length cm) 5 1 mkey.length (bytesV mkey) :: bods 5 pool :: sl (.slice qk n.keys.length ck) 44 1 n.keys.length rk :: sl (.slice qv n.vals.length cv) 44 1 n.vals.length rv :: F) w) rfl ?_ ?_
    rotate_left
    · refine zd ?_
      refine MC.laD true (la_load1 hs rfl hat) rfl ?_
      by_cases he : n.kids[i] = mpage
      · cases mother with
        | none => exact absurd ⟨he, rfl⟩ heq
        | some o =>
          dsimp only [pageI] at hs ⊢
          refine zd ?_
          exact MC.meetS () (by repeat (first | exact trivial | refine ⟨rfl, ?_⟩)) hs
      · refine zd ?_
        exact MC.meetS () (by repeat (first | exact trivial | refine ⟨rfl, ?_⟩)) hs
    · rintro _ w hs
      dsimp only [List.drop]
      refine zz ?_
      refine MC.does true (does_store1 hs rfl rfl rfl (by rw [List.length_append, bufV_length]; omega)) rfl ?_; intro _ w hs
      rw [show 0 + ((i : Nat) : Int).toNat * 1 = i by rw [Int.toNat_natCast]; omega, bufV_put (v := int ((mpage : Nat) : Int)) mpage hi rfl] at hs
      have hsl : (n.kids.set i mpage).length = n.kids.length := List.length_set
      have hs := ints_shut (hs.pickF 9 [3, 4, 5, 6, 7, 8, 2, 0, 1] rfl rfl) hsl hci (by omega)
      cases mother with
      | none =>
        dsimp only [pageI] at hs ⊢
        refine zz ?_
        refine MC.la true (la_loadV (vs := [bool n.leaf, .slice qk n.keys.length ck, .slice qv n.vals.length cv, .slice (some ⟨bi, 0, none⟩) n.kids.length ci]) hs rfl rfl rfl rfl) rfl ?_
        have hs := hs.pickF 9 [1, 2, 3, 4, 5, 0, 6, 7, 8] rfl rfl
        have hd := hs.tail.tail
        have hin' : NdIn pool ⟨.slice qk n.keys.length ck, .slice qv n.vals.length cv, .slice (some ⟨bi, 0, none⟩) n.kids.length ci, rk, rv⟩ (renewed n i ⟨mpage, none, mkey, msize⟩) := ⟨hin.kl, hin.key, hin.vl, hin.val⟩
        have hrd := hin'.read2 hd (RdS.of_sl hd.tail) (RdS.of_sl hd.tail.tail).up (by show RdS _ 1 (.slice (some ⟨bi, 0, none⟩) n.kids.length ci) (n.kids.set i mpage).length _; rw [hsl]; exact (RdS.of_sl hd.tail.tail.tail).up) ⟨by show n.keys.length ≤ 1000; omega, by show n.vals.length ≤ 1000; have := hfew.vals; omega, by show (n.kids.set i mpage).length ≤ 1000; omega⟩ (fun k h => by have := hfew.k k h; omega) (fun k h => by have := hfew.v k h; omega)
        have hsv := tsave_spec (tp := tp) (page := page) hs hrd.up (fun k h => by
          rcases List.mem_or_eq_of_mem_set h with h | h
          · have := hfew.c k h; omega
          · rw [h]; exact hmp) hp
        refine MC.does true (does_call rfl (hsv)) rfl ?_
        rintro _ w (⟨md2, s', hm, hmd2, vk2, rfl, hs⟩ | ⟨e, s', he, hm, a2, c2, q2, n2, cc2, d2, rfl, hs⟩)
        · obtain ⟨_, qm2, cm2, rfl, _⟩ := hs.sl_len
          refine zz ?_
          refine MC.does true (does_store (vs := mdC ((md2.page : Nat) : Int) (pageI md2.other) (.slice qm2 md2.key.length cm2) ((md2.size : Nat) : Int)) hs rfl rfl rfl rfl (all1 rfl) (by simp)) rfl ?_; intro _ w hs; rw [splice_all (by rfl)] at hs
          refine zz ?_
          refine MC.retR (vs := [.agg (mdC ((md2.page : Nat) : Int) (pageI md2.other) (.slice qm2 md2.key.length cm2) ((md2.size : Nat) : Int)).toArray, int 0]) ⟨⟨⟨b10, 0, none⟩, rfl, load_cellA hs rfl⟩, rfl, trivial⟩ ?_
          exact .inl ⟨md2, s', hm, hmd2, .slice qm2 md2.key.length cm2, rfl, hs.pickF 10 [0, 1] rfl rfl⟩
        · refine zz ?_
          refine MC.does true (does_store (vs := mdC a2 c2 (.slice q2 n2 cc2) d2) hs rfl rfl rfl rfl (all1 rfl) (by simp)) rfl ?_; intro _ w hs; rw [splice_all (by rfl)] at hs
          refine zz ?_
          refine MC.retR (vs := [.agg (mdC a2 c2 (.slice q2 n2 cc2) d2).toArray, int e]) ⟨⟨⟨b10, 0, none⟩, rfl, load_cellA hs rfl⟩, rfl, trivial⟩ ?_
          exact .inr ⟨e, s', he, hm, _, _, _, _, _, _, rfl, hs.pickF 9 [0] rfl rfl⟩
      | some o =>
        have hmo := hmo o rfl
        dsimp only [pageI] at hs ⊢
        refine zz ?_
        refine MC.cutAtS 1 (σ := Value × Value) (fun x => [(0, true, ptr tp), (1, true, int ((page : Nat) : Int)), (7, true, ptr b7), (10, true, ptr b10)]) (fun x w => Sat (pgr z s mk :: sl (.slice qm mkey.length cm) 5 1 mkey.length (bytesV mkey) :: bods 5 pool :: sl x.1 44 1 (n.keys.length + 1) (rk.insertIdx i (.slice qm mkey.length cm)) :: sl (.slice qv n.vals.length cv) 44 1 n.vals.length rv :: sl x.2 3 1 (n.kids.length + 1) ((bufV (n.kids.set i mpage)).insertIdx (i + 1) (int ((o : Nat) : Int))) :: blk b7 [bool n.leaf, x.1, .slice qv n.vals.length cv, x.2] 97 :: blk b10 (mdC 0 0 (.slice none 0 0) 0) 99 :: blk b9 (mdC ((mpage : Nat) : Int) ((o : Nat) : Int) (.slice qm mkey.length cm) ((msize : Nat) : Int)) 99 :: F) w) rfl ?_ ?_
        rotate_left
        · refine MC.draw hs [0, 1, 2, 3, 4, 7, 8, 9, 10, 11, 12, 5, 6, 15, 13, 14, 16, 17, 18] (by rfl) ?_; intro w hs
          refine zd ?_
          refine MC.fork 13 [5, 6, 15, 14, 16, 17, 18] rfl rfl (does_buildObj hs rfl rfl rfl (all1 rfl) rfl) (does_buildObj hs rfl rfl rfl (all1 rfl) rfl) ?_ ?_
          · skip
            rintro _ w ⟨bK, rfl, hs⟩
            refine zh ?_
            refine zd ?_
            have hs := hs.pickF 10 [5, 0, 1, 2, 3, 4, 6, 7, 8, 9] rfl rfl
            have hB := insB_spec (i := i) hs hik (by omega) hone rfl
            refine MC.fork 13 [6, 15, 14, 16, 17, 18] rfl rfl (does_call rfl hB) (does_buildObj hs rfl rfl rfl (all1 rfl) rfl) ?_ ?_
            · skip
              intro vB w hs
              refine zh ?_
              refine zd ?_
              refine MC.doesK true (does_buildObj hs rfl rfl rfl (all1 rfl) rfl) rfl rfl rfl ?_
              rintro _ w ⟨bO, rfl, hs⟩
              refine zh ?_
              refine zd ?_
              have hs := hs.pickF 10 [2, 0, 1, 3, 4, 5, 6, 7, 8, 9] rfl rfl
              have hI := insI_spec (i := i + 1) hs (by omega) (by omega) (bufV_one _) rfl
              refine MC.doesK true (does_call rfl (hI)) rfl rfl rfl ?_
              intro vI w hs
              refine zh ?_
              have hs := hs.pickF 9 [1, 0, 2, 3, 4, 5, 6, 7, 8] rfl rfl
              obtain ⟨_, qk2, ck2, rfl, _⟩ := hs.sl_len
              obtain ⟨_, qi2, ci2, rfl, _⟩ := hs.tail.sl_len
              refine zd ?_
              refine MC.doesL true (does_store1 hs rfl rfl rfl (by simp)) rfl rfl rfl rfl ?_; intro _ w hs; refine zh ?_
              refine zd ?_
              refine MC.doesL true (does_store1 hs rfl rfl rfl (by simp)) rfl rfl rfl rfl ?_; intro _ w hs; refine zh ?_
              refine zd ?_
              have hs := hs.pickF 9 [2, 3, 4, 0, 5, 1, 6, 7, 8] rfl rfl
              exact MC.meetS (.slice qk2 (n.keys.length + 1) ck2, .slice qi2 (n.kids.length + 1) ci2) (by repeat (first | exact trivial | refine ⟨rfl, ?_⟩)) hs
            · skip
              rintro _ w ⟨bO, rfl, hs⟩
              refine zh ?_
              refine zd ?_
              have hs := hs.pickF 11 [1, 2, 0, 3, 4, 5, 6, 7, 8, 9, 10] rfl rfl
              have hB := insB_spec (i := i) hs hik (by omega) hone rfl
              refine MC.doesK true (does_call rfl (hB)) rfl rfl rfl ?_
              intro vB w hs
              refine zh ?_
              refine zd ?_
              have hs := hs.pickF 10 [2, 1, 0, 3, 4, 5, 6, 7, 8, 9] rfl rfl
              have hI := insI_spec (i := i + 1) hs (by omega) (by omega) (bufV_one _) rfl
              refine MC.doesK true (does_call rfl (hI)) rfl rfl rfl ?_
              intro vI w hs
              refine zh ?_
              have hs := hs.pickF 9 [1, 0, 2, 3, 4, 5, 6, 7, 8] rfl rfl
              obtain ⟨_, qk2, ck2, rfl, _⟩ := hs.sl_len
              obtain ⟨_, qi2, ci2, rfl, _⟩ := hs.tail.sl_len
              refine zd ?_
              refine MC.doesL true (does_store1 hs rfl rfl rfl (by simp)) rfl rfl rfl rfl ?_; intro _ w hs; refine zh ?_
              refine zd ?_
              refine MC.doesL true (does_store1 hs rfl rfl rfl (by simp)) rfl rfl rfl rfl ?_; intro _ w hs; refine zh ?_
              refine zd ?_
              have hs := hs.pickF 9 [2, 3, 4, 0, 5, 1, 6, 7, 8] rfl rfl
              exact MC.meetS (.slice qk2 (n.keys.length + 1) ck2, .slice qi2 (n.kids.length + 1) ci2) (by repeat (first | exact trivial | refine ⟨rfl, ?_⟩)) hs
          · skip
            rintro _ w ⟨bO, rfl, hs⟩
            refine zh ?_
            refine zd ?_
            refine MC.doesK true (does_buildObj hs rfl rfl rfl (all1 rfl) rfl) rfl rfl rfl ?_
            rintro _ w ⟨bK, rfl, hs⟩
            refine zh ?_
            refine zd ?_
            have hs := hs.pickF 11 [6, 0, 1, 2, 3, 4, 5, 7, 8, 9, 10] rfl rfl
            have hB := insB_spec (i := i) hs hik (by omega) hone rfl
            refine MC.doesK true (does_call rfl (hB)) rfl rfl rfl ?_
            intro vB w hs
            refine zh ?_
            refine zd ?_
            have hs := hs.pickF 10 [2, 1, 0, 3, 4, 5, 6, 7, 8, 9] rfl rfl
            have hI := insI_spec (i := i + 1) hs (by omega) (by omega) (bufV_one _) rfl
            refine MC.doesK true (does_call rfl (hI)) rfl rfl rfl ?_
            intro vI w hs
            refine zh ?_
            have hs := hs.pickF 9 [1, 0, 2, 3, 4, 5, 6, 7, 8] rfl rfl
            obtain ⟨_, qk2, ck2, rfl, _⟩ := hs.sl_len
            obtain ⟨_, qi2, ci2, rfl, _⟩ := hs.tail.sl_len
            refine zd ?_
            refine MC.doesL true (does_store1 hs rfl rfl rfl (by simp)) rfl rfl rfl rfl ?_; intro _ w hs; refine zh ?_
            refine zd ?_
            refine MC.doesL true (does_store1 hs rfl rfl rfl (by simp)) rfl rfl rfl rfl ?_; intro _ w hs; refine zh ?_
            refine zd ?_
            have hs := hs.pickF 9 [2, 3, 4, 0, 5, 1, 6, 7, 8] rfl rfl
            exact MC.meetS (.slice qk2 (n.keys.length + 1) ck2, .slice qi2 (n.kids.length + 1) ci2) (by repeat (first | exact trivial | refine ⟨rfl, ?_⟩)) hs
        · rintro ⟨vB, vI⟩ w hs
          dsimp only [List.drop] at hs ⊢
          refine zz ?_
          rw [bufV_ins (by rw [hsl]; omega)] at hs
          obtain ⟨_, qB, cB, rfl, _⟩ := hs.tail.tail.tail.sl_len
          obtain ⟨_, qI, cI, rfl, _⟩ := hs.tail.tail.tail.tail.tail.sl_len
          refine MC.la true (la_loadV (vs := [bool n.leaf, .slice qB (n.keys.length + 1) cB, .slice qv n.vals.length cv, .slice qI (n.kids.length + 1) cI]) hs rfl rfl rfl rfl) rfl ?_
          have hs := (bods_add rfl (hs.pickF 3 [1, 2, 0] rfl rfl)).swap
          have hii := inp_ins (u := .slice qm mkey.length cm) (k := mkey) ⟨hin.kl, hin.key⟩ hik
          have hkl2 : (n.keys.insertIdx i mkey).length = n.keys.length + 1 := by rw [List.length_insertIdx_of_le_length hik]
          have hcl2 : ((n.kids.set i mpage).insertIdx (i + 1) o).length = n.kids.length + 1 := by rw [List.length_insertIdx_of_le_length (by omega), hsl]
          have hin' : NdIn (pool ++ [(.slice qm mkey.length cm, mkey)]) ⟨.slice qB (n.keys.length + 1) cB, .slice qv n.vals.length cv, .slice qI (n.kids.length + 1) cI, rk.insertIdx i (.slice qm mkey.length cm), rv⟩ (renewed n i ⟨mpage, some o, mkey, msize⟩) := ⟨hii.1, hii.2, hin.vl, pool_up (fun x hx => List.mem_append_left _ hx) hin.val⟩
          have hd := hs.tail
          have hrd := hin'.read2 hd (by show RdS _ 1 _ (n.keys.insertIdx i mkey).length _; rw [hkl2]; exact RdS.of_sl hd.tail) (RdS.of_sl hd.tail.tail).up (by show RdS _ 1 (.slice qI (n.kids.length + 1) cI) ((n.kids.set i mpage).insertIdx (i + 1) o).length _; rw [hcl2]; exact (RdS.of_sl hd.tail.tail.tail).up) ⟨by show (n.keys.insertIdx i mkey).length ≤ 1000; omega, by show n.vals.length ≤ 1000; have := hfew.vals; omega, by show ((n.kids.set i mpage).insertIdx (i + 1) o).length ≤ 1000; omega⟩ (fun k h => by
            rcases of_ins hik h with h | h
            · rw [h]; exact hmk
            · have := hfew.k k h; omega) (fun k h => by have := hfew.v k h; omega)
          have hsv := tsave_spec (tp := tp) (page := page) hs hrd.up (fun k h => by
            rcases of_ins (by rw [hsl]; omega) h with h | h
            · rw [h]; exact hmo
            · rcases List.mem_or_eq_of_mem_set h with h | h
              · have := hfew.c k h; omega
              · rw [h]; exact hmp) hp
          refine MC.does true (does_call rfl (hsv)) rfl ?_
          rintro _ w (⟨md2, s', hm, hmd2, vk2, rfl, hs⟩ | ⟨e, s', he, hm, a2, c2, q2, n2, cc2, d2, rfl, hs⟩)
          · obtain ⟨_, qm2, cm2, rfl, _⟩ := hs.sl_len
            refine zz ?_
            refine MC.does true (does_store (vs := mdC ((md2.page : Nat) : Int) (pageI md2.other) (.slice qm2 md2.key.length cm2) ((md2.size : Nat) : Int)) hs rfl rfl rfl rfl (all1 rfl) (by simp)) rfl ?_; intro _ w hs; rw [splice_all (by rfl)] at hs
            refine zz ?_
            refine MC.retR (vs := [.agg (mdC ((md2.page : Nat) : Int) (pageI md2.other) (.slice qm2 md2.key.length cm2) ((md2.size : Nat) : Int)).toArray, int 0]) ⟨⟨⟨b10, 0, none⟩, rfl, load_cellA hs rfl⟩, rfl, trivial⟩ ?_
            exact .inl ⟨md2, s', hm, hmd2, .slice qm2 md2.key.length cm2, rfl, hs.pickF 9 [0, 1] rfl rfl⟩
          · refine zz ?_
            refine MC.does true (does_store (vs := mdC a2 c2 (.slice q2 n2 cc2) d2) hs rfl rfl rfl rfl (all1 rfl) (by simp)) rfl ?_; intro _ w hs; rw [splice_all (by rfl)] at hs
            refine zz ?_
            refine MC.retR (vs := [.agg (mdC a2 c2 (.slice q2 n2 cc2) d2).toArray, int e]) ⟨⟨⟨b10, 0, none⟩, rfl, load_cellA hs rfl⟩, rfl, trivial⟩ ?_
            exact .inr ⟨e, s', he, hm, _, _, _, _, _, _, rfl, hs.pickF 8 [0] rfl rfl⟩
end
end Go.Proofs.YtjlofdodiaklaaaGreat
