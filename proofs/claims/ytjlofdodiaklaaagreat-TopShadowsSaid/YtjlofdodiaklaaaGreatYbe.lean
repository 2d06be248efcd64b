/-
  Trees: mend
-/
import Derived.Test.YtjlofdodiaklaaaGreatYbc
set_option maxHeartbeats 1000000
set_option linter.unusedVariables false
set_option linter.unusedSimpArgs false
namespace Go.Proofs.YtjlofdodiaklaaaGreat
open Go Go.Sl Go.Tr
attribute [local irreducible] LooksAt

theorem sum_ge {c : Nat} {f : Nat → Nat} (hf : ∀ i, c ≤ f i) : ∀ m : Nat, c * m ≤ ((List.range m).map f).sum
  | 0 => by simp
  | m + 1 => by
    rw [List.range_succ, List.map_append, List.sum_append]
    have := sum_ge hf m
    have := hf m
    simp only [List.map_cons, List.map_nil, List.sum_cons, List.sum_nil]
    rw [Nat.mul_succ]; omega
theorem right_len {n : Nd} (h : n.right) : n.keys.length ≤ 254 ∧ n.vals.length ≤ 127 ∧ n.kids.length ≤ 127 ∧ (n.leaf = true → n.keys.length ≤ 127) := by
  obtain ⟨⟨_, _, h3⟩, h4⟩ := h
  unfold Nd.size at h4
  by_cases hl : n.leaf = true
  · rw [if_pos hl] at h3 h4
    have := sum_ge (c := 2) (f := n.cell) (fun i => by unfold Nd.cell; rw [if_pos hl]; omega) n.keys.length
    obtain ⟨h5, h6, _⟩ := h3
    rw [h6]
    exact ⟨by omega, by omega, by simp, fun _ => by omega⟩
  · rw [if_neg hl] at h3 h4
    have := sum_ge (c := 1) (f := n.cell) (fun i => by unfold Nd.cell; rw [if_neg hl]; omega) n.keys.length
    obtain ⟨h5, h6, _⟩ := h3
    rw [h5]
    exact ⟨by omega, by simp, by omega, fun h => absurd h hl⟩
theorem few_join {a b : Nd} {k : Bs} (ha : a.right) (hb : b.right) (fa : Few a) (fb : Few b) (hk : k.length ≤ 255) : Few (a.join b k) := by
  obtain ⟨a1, a2, a3, _⟩ := right_len ha
  obtain ⟨b1, b2, b3, _⟩ := right_len hb
  unfold Nd.join
  split
  · exact ⟨by show (a.keys ++ b.keys).length ≤ 600; rw [List.length_append]; omega, by show (a.vals ++ b.vals).length ≤ 600; rw [List.length_append]; omega, Nat.zero_le _,
      fun x hx => (List.mem_append.1 hx).elim (fa.k x) (fb.k x), fun x hx => (List.mem_append.1 hx).elim (fa.v x) (fb.v x), fun x hx => absurd hx (List.not_mem_nil)⟩
  · exact ⟨by show (a.keys ++ [k] ++ b.keys).length ≤ 600; rw [List.length_append, List.length_append]; show a.keys.length + 1 + _ ≤ _; omega, Nat.zero_le _, by show (a.kids ++ b.kids).length ≤ 600; rw [List.length_append]; omega,
      fun x hx => by
        rcases List.mem_append.1 hx with hx | hx
        · rcases List.mem_append.1 hx with hx | hx
          · exact fa.k x hx
          · rw [List.mem_singleton.1 hx]; exact hk
        · exact fb.k x hx, fun x hx => absurd hx (List.not_mem_nil), fun x hx => (List.mem_append.1 hx).elim (fa.c x) (fb.c x)⟩
theorem inp_erase {pool : List (Value × Bs)} {rs : List Value} {ks : List Bs} {j : Nat} (h : Inp pool rs ks) : Inp pool (rs.eraseIdx j) (ks.eraseIdx j) := by
  obtain ⟨h1, h2⟩ := h
  refine ⟨by rw [List.length_eraseIdx, List.length_eraseIdx, h1], fun i k hk => ?_⟩
  rw [List.getElem?_eraseIdx] at hk ⊢
  split at hk
  · next hi => rw [if_pos hi]; exact h2 i k hk
  · next hi => rw [if_neg hi]; exact h2 (i + 1) k hk
theorem bufV_erase {l : List Nat} {i : Nat} : (bufV l).eraseIdx i = bufV (l.eraseIdx i) := by
  rw [List.eraseIdx_eq_take_drop_succ, List.eraseIdx_eq_take_drop_succ]
  simp [bufV, List.map_take, List.map_drop]
def mended (n : Nd) (j : Nat) (m : Md) : Nd := match m.other with
  | some o => { n with keys := n.keys.set j m.key, kids := (n.kids.set j m.page).set (j + 1) o }
  | none => { n with keys := n.keys.eraseIdx j, kids := (n.kids.set j m.page).eraseIdx (j + 1) }
def mendJ (E : En) (page : Nat) (n : Nd) (j : Nat) : M Md := (nodeM E (n.kids.getD j 0)).bind fun a => (nodeM E (n.kids.getD (j + 1) 0)).bind fun b =>
  if a.leaf ≠ b.leaf then M.fail 200 else
  (saveM E (n.kids.getD j 0) (a.join b (n.keys.getD j []))).bind fun m => (dropM E (n.kids.getD (j + 1) 0)).bind fun _ => saveM E page (mended n j m)
theorem mendM_eq {E : En} {page i : Nat} {n : Nd} : mendM E page n i = mendJ E page n (if i = n.keys.length then i - 1 else i) := by
  unfold mendM mendJ mended
  rfl

section
variable {F : List Assn} {G : List Value → List Assn} {z : Pw} {s : St} {mk : Option (Nat × St)} {w : World} {tp : Nat} {r h c : Value}
set_option maxHeartbeats 2000000 in
theorem tmend_spec {y : NdV} {n : Nd} {pool : List (Value × Bs)} {page i : Nat} (hs : Sat (pgr z s mk :: ndP pool y n F) w) [hA : At F tp [ptr z.p, r, h, c] 89 G]
    (hin : NdIn pool y n) (hfew : Few { n with kids := [] }) (hf3 : n.kids.length ≤ 600) (hfc : ∀ k ∈ n.kids, k ≤ 100000) (hkk : n.kids.length = n.keys.length + 1) (h0 : 1 ≤ n.keys.length) (hi : i ≤ n.keys.length) (hp : page ≤ 100000) :
    Ret Tryz.prog 75 [ptr tp, int ((page : Nat) : Int), y.val n, int ((i : Nat) : Int)] w (OutMd (mendM z.E page n i) z s mk F) := by
  rw [mendM_eq]
  obtain ⟨j, hj⟩ : ∃ j, j = if i = n.keys.length then i - 1 else i := ⟨_, rfl⟩
  rw [← hj]
  have hjk : j < n.keys.length := by rw [hj]; split <;> omega
  have hjc : j < n.kids.length := by omega
  have hjd : j + 1 < n.kids.length := by omega
  have hgc : n.kids.getD j 0 = n.kids[j] := by rw [List.getD_eq_getElem?_getD, List.getElem?_eq_getElem hjc]; rfl
  have hgd : n.kids.getD (j + 1) 0 = n.kids[j + 1] := by rw [List.getD_eq_getElem?_getD, List.getElem?_eq_getElem hjd]; rfl
  have hgk : n.keys.getD j [] = n.keys[j] := by rw [List.getD_eq_getElem?_getD, List.getElem?_eq_getElem hjk]; rfl
  have hcb : n.kids[j] ≤ 100000 := hfc _ (List.getElem_mem hjc)
  have hdb : n.kids[j + 1] ≤ 100000 := hfc _ (List.getElem_mem hjd)
  unfold mendJ
  rw [hgc, hgd, hgk]
  obtain ⟨sk, sv, si, rk, rv⟩ := y
  have hone : ∀ u ∈ rk, u.oneCell' = true := (hin.read2 hs.tail (RdS.of_sl hs.tail.tail) (RdS.of_sl hs.tail.tail.tail).up (RdS.of_sl hs.tail.tail.tail.tail).up ⟨by have : n.keys.length ≤ 600 := hfew.keys; omega, by have : n.vals.length ≤ 600 := hfew.vals; omega, by omega⟩ (fun k hk => by have := hfew.k k hk; omega) (fun k hk => by have := hfew.v k hk; omega)).keys.one
  obtain ⟨u, hu, hup⟩ := hin.key j n.keys[j] (List.getElem?_eq_getElem hjk)
  obtain ⟨_, qv, cv, rfl, _⟩ := hs.tail.tail.tail.sl_len
  have hs := hs.pickF 5 [4, 0, 1, 2, 3] rfl rfl
  obtain ⟨bi, ci, spi, rfl, hci, hil, hspi, hs⟩ := ints_open hs (by omega)
  have hs := hs.pickF 5 [3, 0, 1, 2, 4] rfl rfl
  obtain ⟨bk, ck, spk, rfl, hck, hkl, hspk, hs⟩ := row_open hs (by omega)
  dsimp only [] at hkl hspk hone
  have hf1 : n.keys.length ≤ 600 := hfew.keys
  have hcat : (bufV n.kids ++ spi)[0 + ((j : Nat) : Int).toNat * 1]? = some (int ((n.kids[j] : Nat) : Int)) := by
    rw [Int.toNat_natCast, Nat.zero_add, Nat.mul_one, List.getElem?_append_left (by rw [bufV_length]; omega)]; simp [bufV, hjc]
  have hdat : (bufV n.kids ++ spi)[0 + (((j : Nat) : Int) + 1).toNat * 1]? = some (int ((n.kids[j + 1] : Nat) : Int)) := by
    rw [show (((j : Nat) : Int) + 1).toNat = j + 1 by omega, Nat.zero_add, Nat.mul_one, List.getElem?_append_left (by rw [bufV_length]; omega)]; simp [bufV, hjd]
  have hkat : (rk ++ spk)[0 + ((j : Nat) : Int).toNat * 1]? = some u := by
    rw [Int.toNat_natCast, Nat.zero_add, Nat.mul_one, List.getElem?_append_left (by rw [hkl]; omega)]; exact hu
  refine Ret.enter [(true, ptr tp), (true, int ((page : Nat) : Int)), (true, .agg [bool n.leaf, .slice (some ⟨bk, 0, none⟩) n.keys.length ck, .slice qv n.vals.length cv, .slice (some ⟨bi, 0, none⟩) n.kids.length ci].toArray), (true, int ((i : Nat) : Int))] _ Tryz.func75 rfl Tryz.ntmps75 rfl ?_
  refine zz ?_
  refine MC.does true (does_box hs rfl rfl) rfl ?_; rintro _ w ⟨b6, rfl, hs⟩
  refine zz ?_
  refine MC.does true (does_alloc hs) rfl ?_; rintro _ w ⟨b8, rfl, hs⟩
  refine zz ?_
  have hs := hs.pickF 7 [4, 0, 1, 2, 3, 5, 6] rfl rfl
  refine MC.cutAtS 1 (σ := Unit) (fun _ => [(0, true, ptr tp), (1, true, int ((page : Nat) : Int)), (3, true, int ((j : Nat) : Int)), (6, true, ptr b6), (8, true, ptr b8), (9, true, int 0)]) (fun _ w => Sat (pgr z s mk :: blk b8 (mdC 0 0 (.slice none 0 0) 0) 99 :: blk b6 [bool n.leaf, .slice (some ⟨bk, 0, none⟩) n.keys.length ck, .slice qv n.vals.length cv, .slice (some ⟨bi, 0, none⟩) n.kids.length ci] 97 :: blk bk (rk ++ spk) 44 :: blk bi (bufV n.kids ++ spi) 3 :: bods 5 pool :: sl (.slice qv n.vals.length cv) 44 1 n.vals.length rv :: F) w) rfl ?_ ?_
  rotate_left
  · by_cases hik : i = n.keys.length
    · rw [if_pos hik] at hj
      have ej : ((j : Nat) : Int) = ((i : Nat) : Int) - 1 := by omega
      rw [ej]
      refine zz ?_
      exact MC.meetS () (by repeat (first | exact trivial | refine ⟨rfl, ?_⟩)) hs
    · rw [if_neg hik] at hj
      subst hj
      refine zz ?_
      exact MC.meetS () (by repeat (first | exact trivial | refine ⟨rfl, ?_⟩)) hs
  · rintro _ w hs
    dsimp only [List.drop] at hs ⊢
    refine zz ?_
    refine MC.la true (la_load1 hs rfl hcat) rfl ?_
    refine zz ?_
    have hra := tread_spec (tp := tp) hs hcb
    refine MC.does true (does_call rfl (hra)) rfl ?_
    rintro _ w (⟨na, s1, hma, hria, ya, poola, hina, hfewa, rfl, hs⟩ | ⟨e, s1, he, hma, lf, q1, n1, c1, q2, n2, c2, q3, n3, c3, rfl, hs⟩)
    · obtain ⟨ska, sva, sia, rka, rva⟩ := ya
      obtain ⟨_, qka, cka, rfl, _⟩ := (hs.pickF 4 [1, 0, 2, 3] rfl rfl).sl_len
      obtain ⟨_, qva, cva, rfl, _⟩ := (hs.pickF 4 [2, 0, 1, 3] rfl rfl).sl_len
      obtain ⟨_, qia, cia, rfl, _⟩ := (hs.pickF 4 [3, 0, 1, 2] rfl rfl).sl_len
      refine zz ?_
      refine MC.does true (does_alloc hs) rfl ?_; rintro _ w ⟨b10, rfl, hs⟩
      refine zz ?_
      refine MC.does true (does_store (vs := [bool na.leaf, .slice qka na.keys.length cka, .slice qva na.vals.length cva, .slice qia na.kids.length cia]) hs rfl rfl rfl rfl (all1 rfl) (by simp)) rfl ?_; intro _ w hs; rw [splice_all (by rfl)] at hs
      refine zz ?_
      refine MC.la true (la_load1 hs rfl hdat) rfl ?_
      have hs := hs.pickF 6 [5, 0, 1, 2, 3, 4] rfl rfl
      have hrb := tread_spec (tp := tp) hs hdb
      refine zz ?_
      refine MC.does true (does_call rfl (hrb)) rfl ?_
      rintro _ w (⟨nb, s2, hmb, hrib, yb, poolb, hinb, hfewb, rfl, hs⟩ | ⟨e, s2, he, hmb, lf, q1, n1, c1, q2, n2, c2, q3, n3, c3, rfl, hs⟩)
      · obtain ⟨skb, svb, sib, rkb, rvb⟩ := yb
        obtain ⟨_, qkb, ckb, rfl, _⟩ := (hs.pickF 4 [1, 0, 2, 3] rfl rfl).sl_len
        obtain ⟨_, qvb, cvb, rfl, _⟩ := (hs.pickF 4 [2, 0, 1, 3] rfl rfl).sl_len
        obtain ⟨_, qib, cib, rfl, _⟩ := (hs.pickF 4 [3, 0, 1, 2] rfl rfl).sl_len
        refine zz ?_
        refine MC.does true (does_alloc hs) rfl ?_; rintro _ w ⟨b12, rfl, hs⟩
        refine zz ?_
        refine MC.does true (does_store (vs := [bool nb.leaf, .slice qkb nb.keys.length ckb, .slice qvb nb.vals.length cvb, .slice qib nb.kids.length cib]) hs rfl rfl rfl rfl (all1 rfl) (by simp)) rfl ?_; intro _ w hs; rw [splice_all (by rfl)] at hs
        refine zz ?_
        refine MC.pure (f := true) (po_bin rfl rfl br_bool_ne) rfl ?_
        by_cases hlf : na.leaf = nb.leaf
        · rw [decide_eq_false (fun h => h hlf)]
          refine zz ?_
          have hs := hs.pickF 17 [5, 1, 2, 3, 4, 7, 8, 9, 10, 6, 0, 11, 12, 13, 14, 15, 16] rfl rfl
          refine MC.cutAtS 1 (σ := Nat × Int) (fun x => [(0, true, ptr tp), (1, true, int ((page : Nat) : Int)), (3, true, int ((j : Nat) : Int)), (6, true, ptr b6), (8, true, ptr b8), (9, true, int 0), (13, true, ptr x.1), (11, true, int x.2)]) (fun x w => (x.2 = 0 ∧ ∃ md vk s3, saveM z.E n.kids[j] (na.join nb n.keys[j]) s2 (.ok md) s3 ∧ MdOk md ∧ Sat (pgr z s3 mk :: sl vk 5 1 md.key.length (bytesV md.key) :: blk x.1 (mdC ((md.page : Nat) : Int) (pageI md.other) vk ((md.size : Nat) : Int)) 99 :: blk b8 (mdC 0 0 (.slice none 0 0) 0) 99 :: blk b6 [bool n.leaf, .slice (some ⟨bk, 0, none⟩) n.keys.length ck, .slice qv n.vals.length cv, .slice (some ⟨bi, 0, none⟩) n.kids.length ci] 97 :: blk bk (rk ++ spk) 44 :: blk bi (bufV n.kids ++ spi) 3 :: bods 5 pool :: sl (.slice qv n.vals.length cv) 44 1 n.vals.length rv :: F) w) ∨
            (x.2 ≠ 0 ∧ ∃ s3, saveM z.E n.kids[j] (na.join nb n.keys[j]) s2 (.err x.2) s3 ∧ Sat (pgr z s3 mk :: blk b8 (mdC 0 0 (.slice none 0 0) 0) 99 :: F) w)) rfl ?_ ?_
          rotate_left
          · refine MC.draw hs [0, 1, 2, 3, 4, 5, 6, 7, 8, 9, 10, 11, 12, 13, 14, 15, 16, 17, 18, 19, 20] (by rfl) ?_; intro w hs
            refine zd ?_
            refine MC.laD true (la_load1 hs rfl hcat) rfl ?_
            refine zd ?_
            refine MC.laD true (la_loadV (vs := [bool na.leaf, .slice qka na.keys.length cka, .slice qva na.vals.length cva, .slice qia na.kids.length cia]) hs rfl rfl rfl rfl) rfl ?_
            refine zd ?_
            refine MC.laD true (la_loadV (vs := [bool nb.leaf, .slice qkb nb.keys.length ckb, .slice qvb nb.vals.length cvb, .slice qib nb.kids.length cib]) hs rfl rfl rfl rfl) rfl ?_
            refine zd ?_
            refine MC.laD true (la_load1 hs rfl hkat) rfl ?_
            refine zd ?_
            have hdb' := hs.tail
            have hrdb := hinb.read (F := _) hfewb hdb'
            have hda' := hdb'.tail.tail.tail.tail
            have hrda := hina.read (F := _) hfewa hda'
            have hku := bods_rd hda'.tail.tail.tail.tail.tail.tail.tail.tail.tail.tail hup
            have hjoin := join_spec (key := n.keys[j]) hs hrda.up hrdb.up hku.up hlf (few_join hria hrib hfewa hfewb (hfew.k _ (List.getElem_mem hjk))) hfewa hfewb (by have := right_len hria; have := right_len hrib; omega) (hfew.k _ (List.getElem_mem hjk))
            refine MC.fork 18 [13, 14, 15, 16, 17, 19, 20] rfl rfl (does_call rfl hjoin) (does_alloc hs) ?_ ?_
            · rintro _ w ⟨yj, poolj, hinj, rfl, hs⟩; refine zh ?_
              have hs := hs.pickF 5 [4, 0, 1, 2, 3] rfl rfl
              obtain ⟨skj, svj, sij, rkj, rvj⟩ := yj
              obtain ⟨_, qkj, ckj, rfl, _⟩ := (hs.pickF 5 [2, 0, 1, 3, 4] rfl rfl).sl_len
              obtain ⟨_, qvj, cvj, rfl, _⟩ := (hs.pickF 5 [3, 0, 1, 2, 4] rfl rfl).sl_len
              obtain ⟨_, qij, cij, rfl, _⟩ := (hs.pickF 5 [4, 0, 1, 2, 3] rfl rfl).sl_len
              refine zd ?_
              have hfj := few_join (k := n.keys[j]) hria hrib hfewa hfewb (hfew.k _ (List.getElem_mem hjk))
              have hsv := tsave_spec (tp := tp) (page := n.kids[j]) hs (hinj.read (F := _) hfj hs.tail).up (fun k hk => by have := hfj.c k hk; omega) hcb
              refine MC.fork 18 [14, 15, 16, 17, 19, 20] rfl rfl (does_call rfl hsv) (does_alloc hs) ?_ ?_
              · skip
                rintro _ w (⟨md, s3, hms, hmd, vk2, rfl, hs⟩ | ⟨e, s3, he, hms, a2, c2, q2, n2, cc2, d2, rfl, hs⟩)
                · refine zh ?_
                  obtain ⟨_, qm, cm, rfl, _⟩ := hs.sl_len
                  refine zd ?_
                  refine MC.doesK true (does_alloc hs) rfl rfl rfl ?_; rintro _ w ⟨b13, rfl, hs⟩; refine zh ?_
                  refine zd ?_
                  refine MC.doesL true (does_store (vs := mdC ((md.page : Nat) : Int) (pageI md.other) (.slice qm md.key.length cm) ((md.size : Nat) : Int)) hs rfl rfl rfl rfl (all1 rfl) (by simp)) rfl rfl rfl rfl ?_; intro _ w hs; rw [splice_all (by rfl)] at hs; refine zh ?_
                  refine zd ?_
                  exact MC.meetS (b13, 0) (by repeat (first | exact trivial | refine ⟨rfl, ?_⟩)) (.inl ⟨rfl, md, .slice qm md.key.length cm, s3, hms, hmd, hs.pickF 23 [2, 1, 0, 17, 18, 19, 20, 21, 22] rfl rfl⟩)
                · refine zh ?_
                  refine zd ?_
                  refine MC.doesK true (does_alloc hs) rfl rfl rfl ?_; rintro _ w ⟨b13, rfl, hs⟩; refine zh ?_
                  refine zd ?_
                  refine MC.doesL true (does_store (vs := mdC a2 c2 (.slice q2 n2 cc2) d2) hs rfl rfl rfl rfl (all1 rfl) (by simp)) rfl rfl rfl rfl ?_; intro _ w hs; rw [splice_all (by rfl)] at hs; refine zh ?_
                  refine zd ?_
                  exact MC.meetS (b13, e) (by repeat (first | exact trivial | refine ⟨rfl, ?_⟩)) (.inr ⟨he, s3, hms, hs.pickF 22 [1, 16] rfl rfl⟩)
              · rintro _ w ⟨b13, rfl, hs⟩; refine zh ?_
                refine zd ?_
                have hs := hs.pickF 6 [1, 2, 3, 4, 5, 0] rfl rfl
                have hsv := tsave_spec (tp := tp) (page := n.kids[j]) hs (hinj.read (F := _) hfj hs.tail).up (fun k hk => by have := hfj.c k hk; omega) hcb
                refine MC.doesK true (does_call rfl (hsv)) rfl rfl rfl ?_
                rintro _ w (⟨md, s3, hms, hmd, vk2, rfl, hs⟩ | ⟨e, s3, he, hms, a2, c2, q2, n2, cc2, d2, rfl, hs⟩)
                · refine zh ?_
                  obtain ⟨_, qm, cm, rfl, _⟩ := hs.sl_len
                  refine zd ?_
                  refine MC.doesL true (does_store (vs := mdC ((md.page : Nat) : Int) (pageI md.other) (.slice qm md.key.length cm) ((md.size : Nat) : Int)) hs rfl rfl rfl rfl (all1 rfl) (by simp)) rfl rfl rfl rfl ?_; intro _ w hs; rw [splice_all (by rfl)] at hs; refine zh ?_
                  refine zd ?_
                  exact MC.meetS (b13, 0) (by repeat (first | exact trivial | refine ⟨rfl, ?_⟩)) (.inl ⟨rfl, md, .slice qm md.key.length cm, s3, hms, hmd, hs.pickF 23 [1, 0, 6, 17, 18, 19, 20, 21, 22] rfl rfl⟩)
                · refine zh ?_
                  refine zd ?_
                  refine MC.doesL true (does_store (vs := mdC a2 c2 (.slice q2 n2 cc2) d2) hs rfl rfl rfl rfl (all1 rfl) (by simp)) rfl rfl rfl rfl ?_; intro _ w hs; rw [splice_all (by rfl)] at hs; refine zh ?_
                  refine zd ?_
                  exact MC.meetS (b13, e) (by repeat (first | exact trivial | refine ⟨rfl, ?_⟩)) (.inr ⟨he, s3, hms, hs.pickF 22 [0, 16] rfl rfl⟩)
            · rintro _ w ⟨b13, rfl, hs⟩; refine zh ?_
              refine zd ?_
              have hs := hs.swap
              have hdb' := hs.tail.tail
              have hrdb := hinb.read (F := _) hfewb hdb'
              have hda' := hdb'.tail.tail.tail.tail
              have hrda := hina.read (F := _) hfewa hda'
              have hku := bods_rd hda'.tail.tail.tail.tail.tail.tail.tail.tail.tail.tail hup
              have hjoin := join_spec (key := n.keys[j]) hs hrda.up hrdb.up hku.up hlf (few_join hria hrib hfewa hfewb (hfew.k _ (List.getElem_mem hjk))) hfewa hfewb (by have := right_len hria; have := right_len hrib; omega) (hfew.k _ (List.getElem_mem hjk))
              refine MC.doesK true (does_call rfl (hjoin)) rfl rfl rfl ?_
              rintro _ w ⟨yj, poolj, hinj, rfl, hs⟩; refine zh ?_
              have hs := hs.pickF 5 [4, 0, 1, 2, 3] rfl rfl
              obtain ⟨skj, svj, sij, rkj, rvj⟩ := yj
              obtain ⟨_, qkj, ckj, rfl, _⟩ := (hs.pickF 5 [2, 0, 1, 3, 4] rfl rfl).sl_len
              obtain ⟨_, qvj, cvj, rfl, _⟩ := (hs.pickF 5 [3, 0, 1, 2, 4] rfl rfl).sl_len
              obtain ⟨_, qij, cij, rfl, _⟩ := (hs.pickF 5 [4, 0, 1, 2, 3] rfl rfl).sl_len
              refine zd ?_
              have hfj := few_join (k := n.keys[j]) hria hrib hfewa hfewb (hfew.k _ (List.getElem_mem hjk))
              have hsv := tsave_spec (tp := tp) (page := n.kids[j]) hs (hinj.read (F := _) hfj hs.tail).up (fun k hk => by have := hfj.c k hk; omega) hcb
              refine MC.doesK true (does_call rfl (hsv)) rfl rfl rfl ?_
              rintro _ w (⟨md, s3, hms, hmd, vk2, rfl, hs⟩ | ⟨e, s3, he, hms, a2, c2, q2, n2, cc2, d2, rfl, hs⟩)
              · refine zh ?_
                obtain ⟨_, qm, cm, rfl, _⟩ := hs.sl_len
                refine zd ?_
                refine MC.doesL true (does_store (vs := mdC ((md.page : Nat) : Int) (pageI md.other) (.slice qm md.key.length cm) ((md.size : Nat) : Int)) hs rfl rfl rfl rfl (all1 rfl) (by simp)) rfl rfl rfl rfl ?_; intro _ w hs; rw [splice_all (by rfl)] at hs; refine zh ?_
                refine zd ?_
                exact MC.meetS (b13, 0) (by repeat (first | exact trivial | refine ⟨rfl, ?_⟩)) (.inl ⟨rfl, md, .slice qm md.key.length cm, s3, hms, hmd, hs.pickF 23 [1, 0, 6, 17, 18, 19, 20, 21, 22] rfl rfl⟩)
              · refine zh ?_
                refine zd ?_
                refine MC.doesL true (does_store (vs := mdC a2 c2 (.slice q2 n2 cc2) d2) hs rfl rfl rfl rfl (all1 rfl) (by simp)) rfl rfl rfl rfl ?_; intro _ w hs; rw [splice_all (by rfl)] at hs; refine zh ?_
                refine zd ?_
                exact MC.meetS (b13, e) (by repeat (first | exact trivial | refine ⟨rfl, ?_⟩)) (.inr ⟨he, s3, hms, hs.pickF 22 [0, 16] rfl rfl⟩)
          · rintro ⟨b13, e⟩ w hI
            dsimp only [List.drop] at hI ⊢
            have hmod : ∀ (r : Res Md) (s' : St), ((saveM z.E n.kids[j] (na.join nb n.keys[j])).bind fun m => (dropM z.E n.kids[j + 1]).bind fun _ => saveM z.E page (mended n j m)) s2 r s' → ((nodeM z.E n.kids[j]).bind fun a => (nodeM z.E n.kids[j + 1]).bind fun b => if a.leaf ≠ b.leaf then M.fail 200 else (saveM z.E n.kids[j] (a.join b n.keys[j])).bind fun m => (dropM z.E n.kids[j + 1]).bind fun _ => saveM z.E page (mended n j m)) s r s' := fun r s' h => .inr ⟨na, s1, hma, .inr ⟨nb, s2, hmb, by dsimp only []; rw [if_neg (fun h => h hlf)]; exact h⟩⟩
            rcases hI with ⟨rfl, md, vm, s3, hms, hmd, hs⟩ | ⟨he, s3, hms, hs⟩
            · obtain ⟨_, qm, cm, rfl, _⟩ := hs.tail.sl_len
              obtain ⟨mpage, mother, mkey, msize⟩ := md
              obtain ⟨hmp, hmo, hmz, hmk⟩ := hmd
              dsimp only [] at hmp hmo hmz hmk hs ⊢
              refine zz ?_
              refine MC.draw hs [0, 1, 2, 3, 4, 5, 6, 7, 8, 9, 10, 11] (by rfl) ?_; intro w hs
              refine zd ?_
              refine MC.laD true (la_load1 hs rfl hdat) rfl ?_
              refine zd ?_
              refine MC.doesK true (does_call rfl (drop_spec hs hdb)) rfl rfl rfl ?_
              rintro _ w (⟨_, s4, hmd4, rfl, hs⟩ | ⟨e, s4, he, hmd4, rfl, hs⟩)
              · refine zh ?_
                refine zz ?_
                refine MC.does true (does_store1 hs rfl rfl rfl (by rw [List.length_append, bufV_length]; omega)) rfl ?_; intro _ w hs
                rw [show 0 + ((j : Nat) : Int).toNat * 1 = j by rw [Int.toNat_natCast]; omega, bufV_put (v := int ((mpage : Nat) : Int)) mpage hjc rfl] at hs
                have hsl : (n.kids.set j mpage).length = n.kids.length := List.length_set
                have hmod' : ∀ (r : Res Md) (s' : St), saveM z.E page (mended n j ⟨mpage, mother, mkey, msize⟩) s4 r s' → ((nodeM z.E n.kids[j]).bind fun a => (nodeM z.E n.kids[j + 1]).bind fun b => if a.leaf ≠ b.leaf then M.fail 200 else (saveM z.E n.kids[j] (a.join b n.keys[j])).bind fun m => (dropM z.E n.kids[j + 1]).bind fun _ => saveM z.E page (mended n j m)) s r s' := fun r s' h => hmod r s' (.inr ⟨_, s3, hms, .inr ⟨(), s4, hmd4, h⟩⟩)
                cases mother with
                | none =>
                  dsimp only [pageI] at hs ⊢
                  refine zz ?_
                  have hs := ints_shut (hs.pickF 9 [6, 0, 1, 2, 3, 4, 5, 7, 8] rfl rfl) hsl hci (by omega)
                  have hs := Sat.sl_mk (size := 1) (hs.pickF 9 [6, 0, 1, 2, 3, 4, 5, 7, 8] rfl rfl) hck (by omega) (by omega)
                  have hdK := delB_spec hs hjk (by omega) hone
                  rw [show (((j + 1 : Nat)) : Int) = ((j : Nat) : Int) + 1 from by omega] at hdK
                  refine MC.cutAtS 1 (σ := Value × Value) (fun x => [(0, true, ptr tp), (1, true, int ((page : Nat) : Int)), (6, true, ptr b6), (8, true, ptr b8), (9, true, int 0)]) (fun x w => Sat (pgr z s4 mk :: bods 5 pool :: sl x.1 44 1 (n.keys.length - 1) (rk.eraseIdx j) :: sl (.slice qv n.vals.length cv) 44 1 n.vals.length rv :: sl x.2 3 1 (n.kids.length - 1) ((bufV (n.kids.set j mpage)).eraseIdx (j + 1)) :: blk b8 (mdC 0 0 (.slice none 0 0) 0) 99 :: blk b6 [bool n.leaf, x.1, .slice qv n.vals.length cv, x.2] 97 :: F) w) rfl ?_ ?_
                  rotate_left
                  · refine MC.draw hs [0, 1, 2, 3, 4, 6, 7, 8, 9, 10, 11, 5, 13, 12, 14, 15, 16] (by rfl) ?_; intro w hs
                    refine zd ?_
                    have hdK := delB_spec hs hjk (by omega) hone
                    rw [show (((j + 1 : Nat)) : Int) = ((j : Nat) : Int) + 1 from by omega] at hdK
                    refine MC.doesK true (does_call rfl (hdK)) rfl rfl rfl ?_
                    intro vB w hs
                    refine zh ?_
                    obtain ⟨_, qB, cB, rfl, _⟩ := hs.sl_len
                    refine zd ?_
                    have hs := hs.swap
                    have hdI := delI_spec (i := j + 1) hs hjd (by omega) (bufV_one _)
                    rw [show (((j + 1 : Nat)) : Int) = ((j : Nat) : Int) + 1 from by omega, show (((j + 1 + 1 : Nat)) : Int) = ((j : Nat) : Int) + 2 from by omega] at hdI
                    refine MC.doesK true (does_call rfl (hdI)) rfl rfl rfl ?_
                    intro vI w hs
                    refine zh ?_
                    obtain ⟨_, qI, cI, rfl, _⟩ := hs.sl_len
                    refine zd ?_
                    refine MC.doesL true (does_store1 hs rfl rfl rfl (by simp)) rfl rfl rfl rfl ?_; intro _ w hs; refine zh ?_
                    refine zd ?_
                    refine MC.doesL true (does_store1 hs rfl rfl rfl (by simp)) rfl rfl rfl rfl ?_; intro _ w hs; refine zh ?_
                    refine zd ?_
                    exact MC.meetS (.slice qB (n.keys.length - 1) cB, .slice qI (n.kids.length - 1) cI) (by repeat (first | exact trivial | refine ⟨rfl, ?_⟩)) (hs.pickF 9 [2, 7, 1, 8, 0, 5, 6] rfl rfl)
                  · rintro ⟨vB, vI⟩ w hs
                    dsimp only [List.drop] at hs ⊢
                    refine zz ?_
                    rw [bufV_erase] at hs
                    obtain ⟨_, qB, cB, rfl, _⟩ := hs.tail.tail.sl_len
                    obtain ⟨_, qI, cI, rfl, _⟩ := hs.tail.tail.tail.tail.sl_len
                    refine MC.la true (la_loadV (vs := [bool n.leaf, .slice qB (n.keys.length - 1) cB, .slice qv n.vals.length cv, .slice qI (n.kids.length - 1) cI]) hs rfl rfl rfl rfl) rfl ?_
                    have hii := inp_erase (j := j) ⟨hin.kl, hin.key⟩
                    have hkl2 : (n.keys.eraseIdx j).length = n.keys.length - 1 := List.length_eraseIdx_of_lt hjk
                    have hcl2 : ((n.kids.set j mpage).eraseIdx (j + 1)).length = n.kids.length - 1 := by rw [List.length_eraseIdx_of_lt (by omega), hsl]
                    have hin' : NdIn pool ⟨.slice qB (n.keys.length - 1) cB, .slice qv n.vals.length cv, .slice qI (n.kids.length - 1) cI, rk.eraseIdx j, rv⟩ (mended n j ⟨mpage, none, mkey, msize⟩) := ⟨hii.1, hii.2, hin.vl, hin.val⟩
                    have hd := hs.tail
                    have hrd := hin'.read2 hd (by show RdS _ 1 _ (n.keys.eraseIdx j).length _; rw [hkl2]; exact RdS.of_sl hd.tail) (RdS.of_sl hd.tail.tail).up (by show RdS _ 1 (.slice qI (n.kids.length - 1) cI) ((n.kids.set j mpage).eraseIdx (j + 1)).length _; rw [hcl2]; exact (RdS.of_sl hd.tail.tail.tail).up) ⟨by show (n.keys.eraseIdx j).length ≤ 1000; omega, by show n.vals.length ≤ 1000; have : n.vals.length ≤ 600 := hfew.vals; omega, by show ((n.kids.set j mpage).eraseIdx (j + 1)).length ≤ 1000; omega⟩ (fun k h => by have := hfew.k k (List.mem_of_mem_eraseIdx h); omega) (fun k h => by have := hfew.v k h; omega)
                    have hsv := tsave_spec (tp := tp) (page := page) hs hrd.up (fun k h => by
                      rcases List.mem_or_eq_of_mem_set (List.mem_of_mem_eraseIdx h) with h | h
                      · have := hfc k h; omega
                      · rw [h]; exact hmp) hp
                    refine MC.does true (does_call rfl (hsv)) rfl ?_
                    rintro _ w (⟨md2, s', hm, hmd2, vk2, rfl, hs⟩ | ⟨e, s', he, hm, a2, c2, q2, n2, cc2, d2, rfl, hs⟩)
                    · obtain ⟨_, qm2, cm2, rfl, _⟩ := hs.sl_len
                      refine zz ?_
                      refine MC.does true (does_store (vs := mdC ((md2.page : Nat) : Int) (pageI md2.other) (.slice qm2 md2.key.length cm2) ((md2.size : Nat) : Int)) hs rfl rfl rfl rfl (all1 rfl) (by simp)) rfl ?_; intro _ w hs; rw [splice_all (by rfl)] at hs
                      refine zz ?_
                      refine MC.retR (vs := [.agg (mdC ((md2.page : Nat) : Int) (pageI md2.other) (.slice qm2 md2.key.length cm2) ((md2.size : Nat) : Int)).toArray, int 0]) ⟨⟨⟨b8, 0, none⟩, rfl, load_cellA hs rfl⟩, rfl, trivial⟩ ?_
                      exact .inl ⟨md2, s', hmod' _ _ hm, hmd2, .slice qm2 md2.key.length cm2, rfl, hs.pickF 8 [0, 1] rfl rfl⟩
                    · refine zz ?_
                      refine MC.does true (does_store (vs := mdC a2 c2 (.slice q2 n2 cc2) d2) hs rfl rfl rfl rfl (all1 rfl) (by simp)) rfl ?_; intro _ w hs; rw [splice_all (by rfl)] at hs
                      refine zz ?_
                      refine MC.retR (vs := [.agg (mdC a2 c2 (.slice q2 n2 cc2) d2).toArray, int e]) ⟨⟨⟨b8, 0, none⟩, rfl, load_cellA hs rfl⟩, rfl, trivial⟩ ?_
                      exact .inr ⟨e, s', he, hmod' _ _ hm, _, _, _, _, _, _, rfl, hs.pickF 7 [0] rfl rfl⟩
                | some o =>
                  have hmo := hmo o rfl
                  dsimp only [pageI] at hs ⊢
                  refine zz ?_
                  refine MC.cutAtS 1 (σ := Unit) (fun _ => [(0, true, ptr tp), (1, true, int ((page : Nat) : Int)), (6, true, ptr b6), (8, true, ptr b8), (9, true, int 0)]) (fun _ w => Sat (pgr z s4 mk :: bods 5 (pool ++ [(.slice qm mkey.length cm, mkey)]) :: sl (.slice (some ⟨bk, 0, none⟩) n.keys.length ck) 44 1 n.keys.length (rk.set j (.slice qm mkey.length cm)) :: sl (.slice qv n.vals.length cv) 44 1 n.vals.length rv :: sl (.slice (some ⟨bi, 0, none⟩) n.kids.length ci) 3 1 n.kids.length (bufV ((n.kids.set j mpage).set (j + 1) o)) :: blk b8 (mdC 0 0 (.slice none 0 0) 0) 99 :: blk b6 [bool n.leaf, .slice (some ⟨bk, 0, none⟩) n.keys.length ck, .slice qv n.vals.length cv, .slice (some ⟨bi, 0, none⟩) n.kids.length ci] 97 :: F) w) rfl ?_ ?_
                  rotate_left
                  · refine MC.draw hs [0, 1, 2, 3, 4, 5, 6, 7, 8, 9, 10, 11, 12, 13, 14] (by rfl) ?_; intro w hs
                    refine zd ?_
                    refine MC.doesL true (does_store1 hs rfl rfl rfl (by rw [List.length_append]; omega)) rfl rfl rfl rfl ?_; intro _ w hs; refine zh ?_
                    rw [show 0 + ((j : Nat) : Int).toNat * 1 = j by rw [Int.toNat_natCast]; omega, List.set_append_left _ _ (by omega)] at hs
                    refine zd ?_
                    refine MC.doesL true (does_store1 hs rfl rfl rfl (by rw [List.length_append, bufV_length]; omega)) rfl rfl rfl rfl ?_; intro _ w hs; refine zh ?_
                    rw [show 0 + (((j : Nat) : Int) + 1).toNat * 1 = j + 1 by omega, bufV_put (v := int ((o : Nat) : Int)) o (by rw [hsl]; exact hjd) rfl] at hs
                    refine zd ?_
                    have hs := ints_shut (hs.pickF 9 [6, 0, 1, 2, 3, 4, 5, 7, 8] rfl rfl) (by rw [List.length_set, hsl]) hci (by omega)
                    have hs := Sat.sl_mk (size := 1) (hs.pickF 9 [6, 0, 1, 2, 3, 4, 5, 7, 8] rfl rfl) hck (by rw [List.length_set]; omega) (by rw [List.length_set]; omega)
                    have hs := bods_add rfl (hs.pickF 9 [3, 7, 0, 1, 2, 4, 5, 6, 8] rfl rfl)
                    exact MC.meetS () (by repeat (first | exact trivial | refine ⟨rfl, ?_⟩)) (hs.pickF 8 [3, 0, 1, 7, 2, 5, 6] rfl rfl)
                  · rintro _ w hs
                    dsimp only [List.drop] at hs ⊢
                    refine zz ?_
                    refine MC.la true (la_loadV (vs := [bool n.leaf, .slice (some ⟨bk, 0, none⟩) n.keys.length ck, .slice qv n.vals.length cv, .slice (some ⟨bi, 0, none⟩) n.kids.length ci]) hs rfl rfl rfl rfl) rfl ?_
                    have hii := inp_set (i := j) (u := .slice qm mkey.length cm) (k := mkey) ⟨hin.kl, hin.key⟩
                    have hkl2 : (n.keys.set j mkey).length = n.keys.length := List.length_set
                    have hcl2 : ((n.kids.set j mpage).set (j + 1) o).length = n.kids.length := by rw [List.length_set, hsl]
                    have hin' : NdIn (pool ++ [(.slice qm mkey.length cm, mkey)]) ⟨.slice (some ⟨bk, 0, none⟩) n.keys.length ck, .slice qv n.vals.length cv, .slice (some ⟨bi, 0, none⟩) n.kids.length ci, rk.set j (.slice qm mkey.length cm), rv⟩ (mended n j ⟨mpage, some o, mkey, msize⟩) := ⟨hii.1, hii.2, hin.vl, pool_up (fun x hx => List.mem_append_left _ hx) hin.val⟩
                    have hd := hs.tail
                    have hrd := hin'.read2 hd (by show RdS _ 1 _ (n.keys.set j mkey).length _; rw [hkl2]; exact RdS.of_sl hd.tail) (RdS.of_sl hd.tail.tail).up (by show RdS _ 1 _ ((n.kids.set j mpage).set (j + 1) o).length _; rw [hcl2]; exact (RdS.of_sl hd.tail.tail.tail).up) ⟨by show (n.keys.set j mkey).length ≤ 1000; omega, by show n.vals.length ≤ 1000; have : n.vals.length ≤ 600 := hfew.vals; omega, by show ((n.kids.set j mpage).set (j + 1) o).length ≤ 1000; omega⟩ (fun k h => by
                      rcases List.mem_or_eq_of_mem_set h with h | h
                      · have := hfew.k k h; omega
                      · rw [h]; exact hmk) (fun k h => by have := hfew.v k h; omega)
                    have hsv := tsave_spec (tp := tp) (page := page) hs hrd.up (fun k h => by
                      rcases List.mem_or_eq_of_mem_set h with h | h
                      · rcases List.mem_or_eq_of_mem_set h with h | h
                        · have := hfc k h; omega
                        · rw [h]; exact hmp
                      · rw [h]; exact hmo) hp
                    refine MC.does true (does_call rfl (hsv)) rfl ?_
                    rintro _ w (⟨md2, s', hm, hmd2, vk2, rfl, hs⟩ | ⟨e, s', he, hm, a2, c2, q2, n2, cc2, d2, rfl, hs⟩)
                    · obtain ⟨_, qm2, cm2, rfl, _⟩ := hs.sl_len
                      refine zz ?_
                      refine MC.does true (does_store (vs := mdC ((md2.page : Nat) : Int) (pageI md2.other) (.slice qm2 md2.key.length cm2) ((md2.size : Nat) : Int)) hs rfl rfl rfl rfl (all1 rfl) (by simp)) rfl ?_; intro _ w hs; rw [splice_all (by rfl)] at hs
                      refine zz ?_
                      refine MC.retR (vs := [.agg (mdC ((md2.page : Nat) : Int) (pageI md2.other) (.slice qm2 md2.key.length cm2) ((md2.size : Nat) : Int)).toArray, int 0]) ⟨⟨⟨b8, 0, none⟩, rfl, load_cellA hs rfl⟩, rfl, trivial⟩ ?_
                      exact .inl ⟨md2, s', hmod' _ _ hm, hmd2, .slice qm2 md2.key.length cm2, rfl, hs.pickF 8 [0, 1] rfl rfl⟩
                    · refine zz ?_
                      refine MC.does true (does_store (vs := mdC a2 c2 (.slice q2 n2 cc2) d2) hs rfl rfl rfl rfl (all1 rfl) (by simp)) rfl ?_; intro _ w hs; rw [splice_all (by rfl)] at hs
                      refine zz ?_
                      refine MC.retR (vs := [.agg (mdC a2 c2 (.slice q2 n2 cc2) d2).toArray, int e]) ⟨⟨⟨b8, 0, none⟩, rfl, load_cellA hs rfl⟩, rfl, trivial⟩ ?_
                      exact .inr ⟨e, s', he, hmod' _ _ hm, _, _, _, _, _, _, rfl, hs.pickF 7 [0] rfl rfl⟩
              · refine zh ?_
                refine zz ?_
                refine MC.pure (f := true) (po_build (ls := []) (out := mdC 0 0 (.slice none 0 0) 0) rfl rfl trivial rfl) rfl ?_
                refine zz ?_
                refine MC.does true (does_store (vs := mdC 0 0 (.slice none 0 0) 0) hs rfl rfl rfl rfl (all1 rfl) (by simp)) rfl ?_; intro _ w hs; rw [splice_all (by rfl)] at hs
                refine zz ?_
                refine MC.retR (vs := [.agg (mdC 0 0 (.slice none 0 0) 0).toArray, int e]) ⟨⟨⟨b8, 0, none⟩, rfl, load_cellA hs rfl⟩, rfl, trivial⟩ ?_
                exact .inr ⟨e, s4, he, hmod _ _ (.inr ⟨_, s3, hms, .inl ⟨e, hmd4, rfl⟩⟩), _, _, _, _, _, _, rfl, hs.pickF 9 [0] rfl rfl⟩
            · skip
              refine zz ?_
              refine MC.pure (f := true) (po_build (ls := []) (out := mdC 0 0 (.slice none 0 0) 0) rfl rfl trivial rfl) rfl ?_
              refine zz ?_
              refine MC.does true (does_store (vs := mdC 0 0 (.slice none 0 0) 0) hs rfl rfl rfl rfl (all1 rfl) (by simp)) rfl ?_; intro _ w hs; rw [splice_all (by rfl)] at hs
              refine zz ?_
              refine MC.retR (vs := [.agg (mdC 0 0 (.slice none 0 0) 0).toArray, int e]) ⟨⟨⟨b8, 0, none⟩, rfl, load_cellA hs rfl⟩, rfl, trivial⟩ ?_
              exact .inr ⟨e, s3, he, hmod _ _ (.inl ⟨e, hms, rfl⟩), _, _, _, _, _, _, rfl, hs.pickF 2 [0] rfl rfl⟩
        · rw [decide_eq_true hlf]
          refine zz ?_
          refine MC.pure (f := true) (po_build (ls := []) (out := mdC 0 0 (.slice none 0 0) 0) rfl rfl trivial rfl) rfl ?_
          refine zz ?_
          refine MC.does true (does_store (vs := mdC 0 0 (.slice none 0 0) 0) hs rfl rfl rfl rfl (all1 rfl) (by simp)) rfl ?_; intro _ w hs; rw [splice_all (by rfl)] at hs
          refine zz ?_
          refine MC.retR (vs := [.agg (mdC 0 0 (.slice none 0 0) 0).toArray, int 200]) ⟨⟨⟨b8, 0, none⟩, rfl, load_cellA hs rfl⟩, rfl, trivial⟩ ?_
          exact .inr ⟨200, s2, by decide, .inr ⟨na, s1, hma, .inr ⟨nb, s2, hmb, by dsimp only []; rw [if_pos hlf]; exact ⟨rfl, rfl⟩⟩⟩, _, _, _, _, _, _, rfl, hs.pickF 17 [5] rfl rfl⟩
      · refine zz ?_
        refine MC.does true (does_alloc hs) rfl ?_; rintro _ w ⟨b12, rfl, hs⟩
        refine zz ?_
        refine MC.does true (does_store (vs := [bool lf, .slice q1 n1 c1, .slice q2 n2 c2, .slice q3 n3 c3]) hs rfl rfl rfl rfl (all1 rfl) (by simp)) rfl ?_; intro _ w hs; rw [splice_all (by rfl)] at hs
        refine zz ?_
        refine MC.pure (f := true) (po_build (ls := []) (out := mdC 0 0 (.slice none 0 0) 0) rfl rfl trivial rfl) rfl ?_
        refine zz ?_
        refine MC.does true (does_store (vs := mdC 0 0 (.slice none 0 0) 0) hs rfl rfl rfl rfl (all1 rfl) (by simp)) rfl ?_; intro _ w hs; rw [splice_all (by rfl)] at hs
        refine zz ?_
        refine MC.retR (vs := [.agg (mdC 0 0 (.slice none 0 0) 0).toArray, int e]) ⟨⟨⟨b8, 0, none⟩, rfl, load_cellA hs rfl⟩, rfl, trivial⟩ ?_
        exact .inr ⟨e, s2, he, .inr ⟨na, s1, hma, .inl ⟨e, hmb, rfl⟩⟩, _, _, _, _, _, _, rfl, hs.pickF 13 [1] rfl rfl⟩
    · refine zz ?_
      refine MC.does true (does_alloc hs) rfl ?_; rintro _ w ⟨b10, rfl, hs⟩
      refine zz ?_
      refine MC.does true (does_store (vs := [bool lf, .slice q1 n1 c1, .slice q2 n2 c2, .slice q3 n3 c3]) hs rfl rfl rfl rfl (all1 rfl) (by simp)) rfl ?_; intro _ w hs; rw [splice_all (by rfl)] at hs
      refine zz ?_
      refine MC.pure (f := true) (po_build (ls := []) (out := mdC 0 0 (.slice none 0 0) 0) rfl rfl trivial rfl) rfl ?_
      refine zz ?_
      refine MC.does true (does_store (vs := mdC 0 0 (.slice none 0 0) 0) hs rfl rfl rfl rfl (all1 rfl) (by simp)) rfl ?_; intro _ w hs; rw [splice_all (by rfl)] at hs
      refine zz ?_
      refine MC.retR (vs := [.agg (mdC 0 0 (.slice none 0 0) 0).toArray, int e]) ⟨⟨⟨b8, 0, none⟩, rfl, load_cellA hs rfl⟩, rfl, trivial⟩ ?_
      exact .inr ⟨e, s1, he, .inl ⟨e, hma, rfl⟩, _, _, _, _, _, _, rfl, hs.pickF 8 [1] rfl rfl⟩
end
end Go.Proofs.YtjlofdodiaklaaaGreat
