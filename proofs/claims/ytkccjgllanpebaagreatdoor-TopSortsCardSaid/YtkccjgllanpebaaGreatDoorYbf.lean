/-
  Stretches of a tree: walk | Trees: save
-/
import Derived.Test.YtkccjgllanpebaaGreatDoorYbe
import Derived.Test.YtkccjgllanpebaaGreatDoorYav
import Derived.Test.YtkccjgllanpebaaGreatDoorYan
set_option maxHeartbeats 1000000
set_option linter.unusedVariables false
set_option linter.unusedSimpArgs false
namespace Go.Proofs.YtkccjgllanpebaaGreatDoor
open Go Go.Sl Go.Tr Go.Pa
attribute [local irreducible] LooksAt
theorem entA_short : ∀ {es : List (Bs × Bs × Bs)} {E : En} {KK : List Nat} {s : St} {X : List PA}, PS E KK (entA es ++ X) s → (∀ e ∈ es, e.2.2.length ≤ 15) → ∀ e ∈ es, e.2.1 = 0 :: e.2.2
  | [], _, _, _, _, _, _, e, he => by cases he
  | x :: es, E, KK, s, X, a, h, e, he => by
    have a : PS E KK (cellA x.2.1 x.2.2 :: (entA es ++ X)) s := a
    rcases List.mem_cons.1 he with rfl | he
    · rcases cellA_open a with h1 | ⟨l, h1, _⟩
      · exact h1.1
      · have := h1.big; have := h e List.mem_cons_self; omega
    · exact entA_short a.tail (fun e he => h e (List.mem_cons_of_mem _ he)) e he
abbrev keysL (l : List (Bs × Bs)) : List Bs := l.map (·.1)
section
variable {z : Pw} {s : St} {mk : Option (Nat × St)} {KK : List Nat}
set_option maxHeartbeats 4000000 in
theorem walk_spec {bp bo bm : Nat} (hd : z.E.down = false) : ∀ (h : Nat) {page n c : Nat} {l : List (Bs × Bs)} {X : List PA} {F : List Assn} {w : World} {q : Option Addr} {xs : List Value},
    PS z.E KK (trA full h page l :: X) s → (∀ x ∈ l, x.2.length ≤ 15) → n + l.length < 100 →
    Sat (pgr z s mk :: blk bo [.slice q n c] 38 :: sl (.slice q n c) 48 2 n xs :: blk bp [ptr z.p] 23 :: blk bm [int 100] 3 :: F) w →
    Ret Tryz.prog 27 [ptr z.p, int ((page : Nat) : Int), int (((h + 1 : Nat) : Nat) : Int), .slice none 0 0, .slice none 0 0, .func (.func 29) #[] #[ptr bp, ptr bo, ptr bm]] w fun v w' =>
      ∃ (q' : Option Addr) (c' : Nat) (G : List Assn) (rows : List (List Value)), v = .tuple #[bool true, int 0] ∧ PL G (keysL l) rows ∧
        Sat (pgr z s mk :: blk bo [.slice q' (n + l.length) c'] 38 :: sl (.slice q' (n + l.length) c') 48 2 (n + l.length) (xs ++ rows.flatten) :: blk bp [ptr z.p] 23 :: blk bm [int 100] 3 :: (G ++ F)) w' := by
  intro h
  induction h with
  | zero =>
    intro page n c l X F w q xs a hv hn hs
    obtain ⟨nd, hr, hf, a⟩ := tr_ps.1 a
    have hlt := a.lt
    obtain ⟨es, hnd, rfl, a1⟩ := leaf_ps.1 (a.pickF 2 [1, 0] rfl rfl)
    have hsh := entA_short a1 (fun e he => hv (e.1, e.2.2) (List.mem_map.2 ⟨e, he, rfl⟩))
    have hlen : (prsOf es).length = es.length := List.length_map _
    rw [hlen] at hn ⊢
    have hlf : nd.leaf = true := by rw [hnd]; rfl
    have hks : nd.keys = es.map (·.1) := by rw [hnd]; rfl
    have hvs : nd.vals = es.map (·.2.1) := by rw [hnd]; rfl
    have hkl : nd.keys.length = es.length := by rw [hks, List.length_map]
    refine Ret.enter [(true, ptr z.p), (true, int ((page : Nat) : Int)), (true, int (((0 + 1 : Nat) : Nat) : Int)), (true, .slice none 0 0), (true, .slice none 0 0), (true, .func (.func 29) #[] #[ptr bp, ptr bo, ptr bm])] _ Tryz.func27 rfl Tryz.ntmps27 rfl ?_
    refine zz ?_
    refine zc rfl (bread_spec hs (by omega)) ?_
    rintro _ w (⟨n', s', hm, hri, y, pool, hin, hfew, rfl, hs⟩ | ⟨e, s', he, hm, _⟩)
    rotate_left
    · have := ((level_gets (low := (0 + 1 == 1)) a hr hlf).sure hd hm).1; cases this
    obtain ⟨e1, rfl⟩ := (level_gets (low := (0 + 1 == 1)) a hr hlf).sure hd hm
    cases e1
    obtain ⟨sk, sv, si, rk, rv⟩ := y
    obtain ⟨_, qk, ck, rfl, _⟩ := (hs.pickF 4 [1, 0, 2, 3] rfl rfl).sl_len
    obtain ⟨_, qv, cv, rfl, _⟩ := (hs.pickF 4 [2, 0, 1, 3] rfl rfl).sl_len
    obtain ⟨_, qi, ci, rfl, _⟩ := (hs.pickF 4 [3, 0, 1, 2] rfl rfl).sl_len
    refine zz ?_
    refine MC.does true (does_alloc hs) rfl ?_; rintro _ w ⟨b14, rfl, hs⟩
    refine zz ?_
    refine MC.does true (does_store (vs := [bool nd.leaf, .slice qk nd.keys.length ck, .slice qv nd.vals.length cv, .slice qi nd.kids.length ci]) hs rfl rfl rfl rfl (all1 rfl) (by simp)) rfl ?_; intro _ w hs; rw [splice_all (by rfl)] at hs
    rw [hlf] at hs
    have hs := hs.pickF 10 [5, 6, 7, 8, 9, 0, 1, 2, 3, 4] rfl rfl
    have hrd := hin.read (F := []) hfew ((suf_left [bods 5 pool, sl (.slice qk nd.keys.length ck) 33 1 nd.keys.length rk, sl (.slice qv nd.vals.length cv) 33 1 nd.vals.length rv, sl (.slice qi nd.kids.length ci) 3 1 nd.kids.length (bufV nd.kids)] F).out w hs.tail.tail.tail.tail.tail.tail)
    rw [← List.append_nil xs] at hs
    refine zz ?_
    refine MC.loop (σ := Nat × Option Addr × Nat) (fun x => [(0, true, ptr z.p), (4, true, .slice none 0 0), (5, true, .func (.func 29) #[] #[ptr bp, ptr bo, ptr bm]), (14, true, ptr b14), (16, true, int ((x.1 : Nat) : Int))])
      (fun x w => x.1 ≤ es.length ∧ ∃ (G2 : List Assn) (rowsN : List (List Value)), PL G2 ((keysL (prsOf es)).take x.1) rowsN ∧ Sat (pgr z s' mk :: blk bo [.slice x.2.1 (n + x.1) x.2.2] 38 :: sl (.slice x.2.1 (n + x.1) x.2.2) 48 2 (n + x.1) (xs ++ rowsN.flatten) :: blk bp [ptr z.p] 23 :: blk bm [int 100] 3 :: blk b14 [bool true, .slice qk nd.keys.length ck, .slice qv nd.vals.length cv, .slice qi nd.kids.length ci] 69 :: bods 5 pool :: sl (.slice qk nd.keys.length ck) 33 1 nd.keys.length rk :: sl (.slice qv nd.vals.length cv) 33 1 nd.vals.length rv :: sl (.slice qi nd.kids.length ci) 3 1 nd.kids.length (bufV nd.kids) :: (G2 ++ F)) w) (fun x => es.length - x.1) (0, q, c) zi ⟨Nat.zero_le _, [], [], PL.nil _, hs⟩ ?_
    clear hs
    rintro ⟨i, q1, c1⟩ w ⟨hi, G2, rowsN, hPL, hs⟩
    dsimp only [] at hi hPL hs ⊢
    rcases Nat.lt_or_ge i es.length with hlt | hge
    · haveI hsuf : Suf (bods 5 pool :: sl (.slice qk nd.keys.length ck) 33 1 nd.keys.length rk :: sl (.slice qv nd.vals.length cv) 33 1 nd.vals.length rv :: sl (.slice qi nd.kids.length ci) 3 1 nd.kids.length (bufV nd.kids) :: (G2 ++ F)) [bods 5 pool, sl (.slice qk nd.keys.length ck) 33 1 nd.keys.length rk, sl (.slice qv nd.vals.length cv) 33 1 nd.vals.length rv, sl (.slice qi nd.kids.length ci) 3 1 nd.kids.length (bufV nd.kids)] := suf_left [_, _, _, _] (G2 ++ F)
      have hik : i < nd.keys.length := by omega
      have hvl : nd.vals.length = es.length := by rw [hvs, List.length_map]
      have hiv : i < nd.vals.length := by omega
      obtain ⟨kb, ko, kcc, q2, c2, hk1, hkg, hkr, hk2⟩ := hrd.keys.get hik
      obtain ⟨vb, vo, vcc, q3, c3, hv1, hvg, hvr, hv2⟩ := hrd.vals.get hiv
      have hk1' : qk = some ⟨kb, ko, none⟩ ∧ ck = kcc := by injection hk1 with h1 h2 h3; exact ⟨h1, h3⟩
      obtain ⟨rfl, rfl⟩ := hk1'
      have hv1' : qv = some ⟨vb, vo, none⟩ ∧ cv = vcc := by injection hv1 with h1 h2 h3; exact ⟨h1, h3⟩
      obtain ⟨rfl, rfl⟩ := hv1'
      have eK : nd.keys[i] = es[i].1 := by simp only [hks, List.getElem_map]
      have eV : nd.vals[i] = 0 :: es[i].2.2 := by
        have : nd.vals[i] = es[i].2.1 := by simp only [hvs, List.getElem_map]
        rw [this, hsh _ (List.getElem_mem hlt)]
      have hkL := hri.1.1 _ (List.getElem_mem hik)
      have hbL : es[i].2.2.length ≤ 15 := hv (es[i].1, es[i].2.2) (List.mem_map.2 ⟨es[i], List.getElem_mem hlt, rfl⟩)
      rw [eK] at hkg hk2 hkL
      rw [eV] at hvg hv2
      rw [List.length_cons] at hvg hv2
      obtain ⟨key, hkey⟩ : ∃ key, es[i].1 = key := ⟨_, rfl⟩
      obtain ⟨b, hb⟩ : ∃ b, es[i].2.2 = b := ⟨_, rfl⟩
      rw [hkey] at hkg hk2 hkL
      rw [hb] at hvg hv2 hbL
      have hkg' : rk[((i : Nat) : Int).toNat * 1]? = some (.slice q2 key.length c2) := by rw [Int.toNat_natCast, Nat.mul_one]; exact hkg
      have hvg' : rv[((i : Nat) : Int).toNat * 1]? = some (.slice q3 (b.length + 1) c3) := by rw [Int.toNat_natCast, Nat.mul_one]; exact hvg
      refine zz ?_
      refine MC.draw hs [0, 1, 2, 3, 4, 5, 6, 7, 8, 9, 10, 11, 12, 13, 14, 15, 16] (by rfl) ?_; intro w hs
      refine zd ?_
      refine MC.laD true (la_load1_rd hkr hs (j := ((i : Nat) : Int).toNat * 1) rfl hkg') rfl ?_
      refine zd ?_
      refine MC.laD true (la_load1_rd hvr hs (j := ((i : Nat) : Int).toNat * 1) rfl hvg') rfl ?_
      refine zd ?_
      have hs := hs.pickF 5 [1, 2, 3, 4, 0] rfl rfl
      refine MC.doesK true (does_callv (f := 29) (first := []) (capt := [ptr bp, ptr bo, ptr bm]) (vs := [.slice q2 key.length c2, .slice q3 (b.length + 1) c3]) rfl rfl (tell_spec hs hk2.up hv2.up (by omega) (by omega) (by omega))) rfl rfl rfl ?_
      rintro _ w ⟨q4, c4, vk', vv', rfl, hs⟩; refine zh ?_
      refine zd ?_
      refine zz ?_
      have hs := hs.pickF 12 [6, 0, 1, 2, 3, 7, 8, 9, 10, 11, 4, 5] rfl rfl
      have hrk := RdS.of_sl ((suf_left (sl vk' 5 1 key.length (bytesV key) :: sl vv' 5 1 b.length (bytesV b) :: G2) F).out w hs.tail.tail.tail.tail.tail.tail.tail.tail.tail.tail)
      have htk : (keysL (prsOf es)).take (i + 1) = (keysL (prsOf es)).take i ++ [key] := by
        rw [List.take_succ_eq_append_getElem (by rw [List.length_map, hlen]; exact hlt)]
        simp [keysL, prsOf, hkey]
      have hPL2 : PL (sl vk' 5 1 key.length (bytesV key) :: sl vv' 5 1 b.length (bytesV b) :: G2) ((keysL (prsOf es)).take (i + 1)) (rowsN ++ [[vk', vv']]) := by
        rw [htk]; exact PL.app hPL.up (PL.one hrk)
      have hxs : (xs ++ rowsN.flatten) ++ [vk', vv'] = xs ++ (rowsN ++ [[vk', vv']]).flatten := by simp
      rw [hxs] at hs
      exact MC.again (i + 1, q4, c4) zi ⟨hlt, _, _, hPL2, hs⟩ (by show es.length - (i + 1) < es.length - i; omega)
    · obtain rfl : i = es.length := by omega
      rw [List.take_of_length_le (by rw [List.length_map, hlen]; exact Nat.le_refl _)] at hPL
      refine zz ?_
      refine MC.ret rfl ?_
      exact ⟨q1, c1, G2, rowsN, rfl, hPL, hs.pickF 10 [0, 1, 2, 3, 4] rfl rfl⟩
  | succ h ih =>
    intro page n c l X F w q xs a hv hn hs
    have hh : h + 1 < 100 := by
      have h1 := full_len (h + 1) a
      have h2 : h + 1 < 2 ^ (h + 1) := Nat.lt_two_pow_self
      omega
    obtain ⟨nd, hr, hf, a⟩ := tr_ps.1 a
    have hlt := a.lt
    obtain ⟨ks, hnd, rfl, hsp, a1⟩ := kids_ps.1 (a.pickF 2 [1, 0] rfl rfl)
    have hlf : nd.leaf = false := by rw [hnd]
    have hki : nd.kids = ks.map (·.1) := by rw [hnd]
    have hkl : nd.kids.length = ks.length := by rw [hki, List.length_map]
    have hfs : ∀ i (hi : i < ks.length), flat (ks.take (i + 1)) = flat (ks.take i) ++ ks[i].2 := fun i hi => by
      unfold flat
      rw [List.take_succ_eq_append_getElem hi, List.map_append, List.flatten_append]; simp
    have hfl : ∀ i, (flat (ks.take i)).length ≤ (flat ks).length := fun i => by
      have : flat ks = flat (ks.take i) ++ flat (ks.drop i) := by
        unfold flat; rw [← List.flatten_append, ← List.map_append, List.take_append_drop]
      rw [this, List.length_append]; omega
    refine Ret.enter [(true, ptr z.p), (true, int ((page : Nat) : Int)), (true, int (((h + 1 + 1 : Nat) : Nat) : Int)), (true, .slice none 0 0), (true, .slice none 0 0), (true, .func (.func 29) #[] #[ptr bp, ptr bo, ptr bm])] _ Tryz.func27 rfl Tryz.ntmps27 rfl ?_
    refine zz ?_
    refine zc rfl (bread_spec hs (by omega)) ?_
    have hlow : nd.leaf = (h + 1 + 1 == 1) := by rw [hlf]; simp
    rintro _ w (⟨n', s', hm, hri, y, pool, hin, hfew, rfl, hs⟩ | ⟨e, s', he, hm, _⟩)
    rotate_left
    · have := ((level_gets (low := (h + 1 + 1 == 1)) a hr hlow).sure hd hm).1; cases this
    obtain ⟨e1, rfl⟩ := (level_gets (low := (h + 1 + 1 == 1)) a hr hlow).sure hd hm
    cases e1
    obtain ⟨sk, sv, si, rk, rv⟩ := y
    obtain ⟨_, qk, ck, rfl, _⟩ := (hs.pickF 4 [1, 0, 2, 3] rfl rfl).sl_len
    obtain ⟨_, qv, cv, rfl, _⟩ := (hs.pickF 4 [2, 0, 1, 3] rfl rfl).sl_len
    obtain ⟨_, qi, ci, rfl, _⟩ := (hs.pickF 4 [3, 0, 1, 2] rfl rfl).sl_len
    refine zz ?_
    refine MC.does true (does_alloc hs) rfl ?_; rintro _ w ⟨b14, rfl, hs⟩
    refine zz ?_
    refine MC.does true (does_store (vs := [bool nd.leaf, .slice qk nd.keys.length ck, .slice qv nd.vals.length cv, .slice qi nd.kids.length ci]) hs rfl rfl rfl rfl (all1 rfl) (by simp)) rfl ?_; intro _ w hs; rw [splice_all (by rfl)] at hs
    rw [hlf] at hs
    have hs := hs.pickF 10 [5, 6, 7, 8, 9, 0, 1, 2, 3, 4] rfl rfl
    have hrd := hin.read (F := []) hfew ((suf_left [bods 5 pool, sl (.slice qk nd.keys.length ck) 33 1 nd.keys.length rk, sl (.slice qv nd.vals.length cv) 33 1 nd.vals.length rv, sl (.slice qi nd.kids.length ci) 3 1 nd.kids.length (bufV nd.kids)] F).out w hs.tail.tail.tail.tail.tail.tail)
    rw [← List.append_nil xs] at hs
    refine zz ?_
    refine MC.loop (σ := Nat × Option Addr × Nat) (fun x => [(0, true, ptr z.p), (2, true, int (((h + 1 + 1 : Nat) : Nat) : Int)), (3, true, .slice none 0 0), (4, true, .slice none 0 0), (5, true, .func (.func 29) #[] #[ptr bp, ptr bo, ptr bm]), (14, true, ptr b14), (16, true, int ((x.1 : Nat) : Int))])
      (fun x w => x.1 ≤ ks.length ∧ ∃ (G2 : List Assn) (rowsN : List (List Value)), PL G2 (keysL (flat (ks.take x.1))) rowsN ∧ Sat (pgr z s' mk :: blk bo [.slice x.2.1 (n + (flat (ks.take x.1)).length) x.2.2] 38 :: sl (.slice x.2.1 (n + (flat (ks.take x.1)).length) x.2.2) 48 2 (n + (flat (ks.take x.1)).length) (xs ++ rowsN.flatten) :: blk bp [ptr z.p] 23 :: blk bm [int 100] 3 :: blk b14 [bool false, .slice qk nd.keys.length ck, .slice qv nd.vals.length cv, .slice qi nd.kids.length ci] 69 :: bods 5 pool :: sl (.slice qk nd.keys.length ck) 33 1 nd.keys.length rk :: sl (.slice qv nd.vals.length cv) 33 1 nd.vals.length rv :: sl (.slice qi nd.kids.length ci) 3 1 nd.kids.length (bufV nd.kids) :: (G2 ++ F)) w) (fun x => ks.length - x.1) (0, q, c) zi ⟨Nat.zero_le _, [], [], PL.nil _, hs⟩ ?_
    clear hs
    rintro ⟨i, q1, c1⟩ w ⟨hi, G2, rowsN, hPL, hs⟩
    dsimp only [] at hi hPL hs ⊢
    rcases Nat.lt_or_ge i ks.length with hlt2 | hge
    · haveI hsuf : Suf (bods 5 pool :: sl (.slice qk nd.keys.length ck) 33 1 nd.keys.length rk :: sl (.slice qv nd.vals.length cv) 33 1 nd.vals.length rv :: sl (.slice qi nd.kids.length ci) 3 1 nd.kids.length (bufV nd.kids) :: (G2 ++ F)) [bods 5 pool, sl (.slice qk nd.keys.length ck) 33 1 nd.keys.length rk, sl (.slice qv nd.vals.length cv) 33 1 nd.vals.length rv, sl (.slice qi nd.kids.length ci) 3 1 nd.kids.length (bufV nd.kids)] := suf_left [_, _, _, _] (G2 ++ F)
      have hik : i < nd.kids.length := by omega
      obtain ⟨kb, ko, hq, hkr⟩ := hrd.kids.at_ (by omega)
      have eK : nd.kids[i] = ks[i].1 := by simp only [hki, List.getElem_map]
      have hat : (bufV nd.kids)[((i : Nat) : Int).toNat * 1]? = some (int ((ks[i].1 : Nat) : Int)) := by
        rw [Int.toNat_natCast, Nat.mul_one, ← eK]; simp [bufV, hik]
      have hks : ks = ks.take i ++ (ks[i].1, ks[i].2) :: ks.drop (i + 1) := by
        have := List.take_append_drop i ks
        rw [List.drop_eq_getElem_cons hlt2] at this
        exact this.symm
      have a2 := (⟨unfold_kids hks a1.1, a1.2⟩ : PS z.E KK (trA full h ks[i].1 ks[i].2 :: _) s')
      have hst := hfs i hlt2
      have hln : (flat (ks.take (i + 1))).length = (flat (ks.take i)).length + ks[i].2.length := by rw [hst, List.length_append]
      have hmx := hfl (i + 1)
      obtain ⟨kp, hkp⟩ : ∃ kp, ks[i].1 = kp := ⟨_, rfl⟩
      obtain ⟨lk, hlk⟩ : ∃ lk, ks[i].2 = lk := ⟨_, rfl⟩
      rw [hkp] at hat
      rw [hkp, hlk] at a2
      rw [hlk] at hst hln
      have hvk : ∀ x ∈ lk, x.2.length ≤ 15 := fun x hx => hv x (by
        have : flat ks = flat (ks.take (i + 1)) ++ flat (ks.drop (i + 1)) := by
          unfold flat; rw [← List.flatten_append, ← List.map_append, List.take_append_drop]
        rw [this, hst]; simp [hx])
      have hcall := ih (n := n + (flat (ks.take i)).length) (xs := xs ++ rowsN.flatten) a2 hvk (by omega) hs
      have hfk : ks.length ≤ 100000 := by have := hfew.kids; omega
      have hne : (((h + 1 + 1 : Nat) : Nat) : Int) - 1 = (((h + 1 : Nat) : Nat) : Int) := by omega
      have hgoal : ∀ {w : World} {q4 : Option Addr} {c4 : Nat} {G3 : List Assn} {rows3 : List (List Value)}, PL G3 (keysL lk) rows3 → Sat (pgr z s' mk :: blk bo [.slice q4 (n + (flat (ks.take i)).length + lk.length) c4] 38 :: sl (.slice q4 (n + (flat (ks.take i)).length + lk.length) c4) 48 2 (n + (flat (ks.take i)).length + lk.length) (xs ++ rowsN.flatten ++ rows3.flatten) :: blk bp [ptr z.p] 23 :: blk bm [int 100] 3 :: (G3 ++ (blk b14 [bool false, .slice qk nd.keys.length ck, .slice qv nd.vals.length cv, .slice qi nd.kids.length ci] 69 :: bods 5 pool :: sl (.slice qk nd.keys.length ck) 33 1 nd.keys.length rk :: sl (.slice qv nd.vals.length cv) 33 1 nd.vals.length rv :: sl (.slice qi nd.kids.length ci) 3 1 nd.kids.length (bufV nd.kids) :: (G2 ++ F)))) w →
          i + 1 ≤ ks.length ∧ ∃ (G2 : List Assn) (rowsN : List (List Value)), PL G2 (keysL (flat (ks.take (i + 1)))) rowsN ∧ Sat (pgr z s' mk :: blk bo [.slice q4 (n + (flat (ks.take (i + 1))).length) c4] 38 :: sl (.slice q4 (n + (flat (ks.take (i + 1))).length) c4) 48 2 (n + (flat (ks.take (i + 1))).length) (xs ++ rowsN.flatten) :: blk bp [ptr z.p] 23 :: blk bm [int 100] 3 :: blk b14 [bool false, .slice qk nd.keys.length ck, .slice qv nd.vals.length cv, .slice qi nd.kids.length ci] 69 :: bods 5 pool :: sl (.slice qk nd.keys.length ck) 33 1 nd.keys.length rk :: sl (.slice qv nd.vals.length cv) 33 1 nd.vals.length rv :: sl (.slice qi nd.kids.length ci) 3 1 nd.kids.length (bufV nd.kids) :: (G2 ++ F)) w := by
        intro w q4 c4 G3 rows3 hP3 hs
        refine ⟨hlt2, G3 ++ G2, rowsN ++ rows3, ?_, ?_⟩
        · have : keysL (flat (ks.take (i + 1))) = keysL (flat (ks.take i)) ++ keysL lk := by rw [hst]; exact List.map_append
          rw [this]
          exact PL.app (@PL.up _ _ (suf_app G3 G2) _ _ hPL) (@PL.up _ _ (suf_left G3 G2) _ _ hP3)
        · rw [hln, ← Nat.add_assoc, List.flatten_append, ← List.append_assoc xs, List.append_assoc G3]
          exact Sat.perm ((List.perm_append_comm_assoc G3 [blk b14 [bool false, .slice qk nd.keys.length ck, .slice qv nd.vals.length cv, .slice qi nd.kids.length ci] 69, bods 5 pool, sl (.slice qk nd.keys.length ck) 33 1 nd.keys.length rk, sl (.slice qv nd.vals.length cv) 33 1 nd.vals.length rv, sl (.slice qi nd.kids.length ci) 3 1 nd.kids.length (bufV nd.kids)] (G2 ++ F)).append_left [_, _, _, _, _]) hs
      subst hq
      rcases Nat.eq_zero_or_pos i with h0 | h0
      all_goals (
        refine zz ?_
        refine MC.la true (la_load1_rd hkr hs (j := ((i : Nat) : Int).toNat * 1) rfl hat) rfl ?_
        refine zz ?_
        rw [hne]
        refine zc rfl (hcall) ?_
        rintro _ w ⟨q4, c4, G3, rows3, rfl, hP3, hs⟩
        refine zz ?_
        exact MC.again (i + 1, q4, c4) zi (hgoal hP3 hs) (by show ks.length - (i + 1) < ks.length - i; omega))
    · obtain rfl : i = ks.length := by omega
      rw [List.take_length] at hPL hs
      refine zz ?_
      refine MC.ret rfl ?_
      exact ⟨q1, c1, G2, rowsN, rfl, hPL, hs.pickF 10 [0, 1, 2, 3, 4] rfl rfl⟩
end
end Go.Proofs.YtkccjgllanpebaaGreatDoor

namespace Go.Proofs.YtkccjgllanpebaaGreatDoor
open Go Go.Sl Go.Tr
attribute [local irreducible] LooksAt
theorem split_sub {n l r : Nd} {key : Bs} (h : n.split = some (l, r, key)) : ((∀ k ∈ l.keys, k ∈ n.keys) ∧ (∀ k ∈ l.vals, k ∈ n.vals) ∧ (∀ k ∈ l.kids, k ∈ n.kids)) ∧ ((∀ k ∈ r.keys, k ∈ n.keys) ∧ (∀ k ∈ r.vals, k ∈ n.vals) ∧ (∀ k ∈ r.kids, k ∈ n.kids)) ∧ (l.keys.length ≤ n.keys.length ∧ l.vals.length ≤ n.vals.length ∧ l.kids.length ≤ n.kids.length) ∧ (r.keys.length ≤ n.keys.length ∧ r.vals.length ≤ n.vals.length ∧ r.kids.length ≤ n.kids.length) ∧ (key = [] ∨ key ∈ n.keys) := by
  have hg : ∀ i, n.keys.getD i [] = [] ∨ n.keys.getD i [] ∈ n.keys := fun i => by
    rcases Nat.lt_or_ge i n.keys.length with h | h
    · rw [getD_at h]; exact .inr (List.getElem_mem h)
    · rw [getD_past h]; exact .inl rfl
  unfold Nd.split at h
  by_cases h1 : ¬ n.sound ∨ n.keys.length < (if n.leaf = true then 2 else 3)
  · rw [if_pos h1] at h; cases h
  · rw [if_neg h1] at h
    by_cases h2 : n.leaf = true
    · rw [if_pos h2] at h
      cases h
      exact ⟨⟨fun k h => List.mem_of_mem_take h, fun k h => List.mem_of_mem_take h, fun k h => (by cases h)⟩, ⟨fun k h => List.mem_of_mem_drop h, fun k h => List.mem_of_mem_drop h, fun k h => (by cases h)⟩, ⟨List.length_take_le' _ _, List.length_take_le' _ _, Nat.zero_le _⟩, ⟨by rw [List.length_drop]; omega, by rw [List.length_drop]; omega, Nat.zero_le _⟩, hg _⟩
    · rw [if_neg h2] at h
      cases h
      exact ⟨⟨fun k h => List.mem_of_mem_take h, fun k h => (by cases h), fun k h => List.mem_of_mem_take h⟩, ⟨fun k h => List.mem_of_mem_drop h, fun k h => (by cases h), fun k h => List.mem_of_mem_drop h⟩, ⟨List.length_take_le' _ _, Nat.zero_le _, List.length_take_le' _ _⟩, ⟨by rw [List.length_drop]; omega, Nat.zero_le _, by rw [List.length_drop]; omega⟩, hg _⟩
theorem NdIn.read2 {G : List Assn} {pool : List (Value × Bs)} {y : NdV} {n : Nd} {w : World} (h : NdIn pool y n) (hs : Sat (bods 5 pool :: G) w) (h1 : RdS G 1 y.sk n.keys.length y.rk) (h2 : RdS G 1 y.sv n.vals.length y.rv) (h3 : RdS G 1 y.si n.kids.length (bufV n.kids))
    (f : n.keys.length ≤ 1000 ∧ n.vals.length ≤ 1000 ∧ n.kids.length ≤ 1000) (hk : ∀ k ∈ n.keys, k.length ≤ 1000) (hv : ∀ k ∈ n.vals, k.length ≤ 1000) : NdR (bods 5 pool :: G) y n := by
  have hp := fun x hx => bods_rd hs (x := x) hx
  refine ⟨⟨h1.up, fun i hi => ?_⟩, ⟨h2.up, fun i hi => ?_⟩, h3.up, f, hk, hv⟩
  · obtain ⟨u, g1, g2⟩ := h.key i n.keys[i] (List.getElem?_eq_getElem hi)
    exact ⟨u, g1, hp _ g2⟩
  · obtain ⟨u, g1, g2⟩ := h.val i n.vals[i] (List.getElem?_eq_getElem hi)
    exact ⟨u, g1, hp _ g2⟩
abbrev mdC (a b : Int) (vk : Value) (d : Int) : List Value := [int a, int b, vk, int d]
section
variable {F : List Assn} {G : List Value → List Assn} {z : Pw} {s : St} {mk : Option (Nat × St)} {w : World} {tp : Nat} {r h c : Value}
structure MdOk (md : Md) : Prop where
  page : md.page ≤ 100000
  other : ∀ o, md.other = some o → o ≤ 100000
  size : md.size ≤ 10000000
  key : md.key.length ≤ 1000
def OutMd (m : M Md) (z : Pw) (s : St) (mk : Option (Nat × St)) (F : List Assn) : Value → World → Prop := Out m s
  (fun md s' v w => MdOk md ∧ ∃ vk, v = .tuple #[.agg (mdC ((md.page : Nat) : Int) (pageI md.other) vk ((md.size : Nat) : Int)).toArray, int 0] ∧ Sat (sl vk 5 1 md.key.length (bytesV md.key) :: pgr z s' mk :: F) w)
  (fun e s' v w => ∃ a b q n c d, v = .tuple #[.agg (mdC a b (.slice q n c) d).toArray, int e] ∧ Sat (pgr z s' mk :: F) w)
theorem size_le {F : List Assn} {y : NdV} {n : Nd} (hr : NdR F y n) : n.size ≤ 3000000 := by
  have h1 := sum_le (cell_le hr.ks hr.vs) n.keys.length
  obtain ⟨f1, f2, f3⟩ := hr.few
  unfold Nd.size
  have : 2002 * n.keys.length ≤ 2002 * 1000 := Nat.mul_le_mul_left _ f1
  split <;> omega
theorem tsave_spec {y : NdV} {n : Nd} {page : Nat} (hs : Sat (pgr z s mk :: F) w) [hA : At F tp [ptr z.p, r, h, c] 63 G] (hr : NdR F y n) (hkd : ∀ k ∈ n.kids, k ≤ 100000) (hp : page ≤ 100000) :
    Ret Tryz.prog 62 [ptr tp, int ((page : Nat) : Int), y.val n] w (OutMd (saveM z.E page n) z s mk F) := by
  have hr0 := hr
  have hszl := size_le hr
  obtain ⟨sk, sv, si, rk, rv⟩ := y
  obtain ⟨hk, hv, hc, ⟨f1, f2, f3⟩, hks, hvs⟩ := hr
  dsimp only [] at hk hv hc f1 f2 f3 hks hvs
  obtain ⟨pk, ck, rfl, hck, _⟩ := hk.shape
  obtain ⟨pv, cv, rfl, hcv, _⟩ := hv.shape
  obtain ⟨pi, ci, rfl, hci, _⟩ := hc.shape
  refine Ret.enter [(true, ptr tp), (true, int ((page : Nat) : Int)), (true, .agg (ndC n pk pv pi ck cv ci).toArray)] _ Tryz.func62 rfl Tryz.ntmps62 rfl ?_
  refine zz ?_
  refine MC.does true (does_box hs rfl rfl) rfl ?_; rintro _ w ⟨b5, rfl, hs⟩
  refine zz ?_
  refine MC.does true (does_alloc hs) rfl ?_; rintro _ w ⟨b6, rfl, hs⟩
  refine zz ?_
  refine MC.la true (la_loadV (vs := ndC n pk pv pi ck cv ci) hs rfl rfl rfl rfl) rfl ?_
  have hcall := right_spec hs hr0.up hkd
  refine zc rfl (hcall) ?_
  rintro _ w ⟨rfl, hs⟩
  have hs := hs.pickF 3 [2, 1, 0] rfl rfl
  by_cases hri : n.right
  · rw [decide_eq_true hri]
    refine zz ?_
    refine MC.la true (la_loadV (vs := ndC n pk pv pi ck cv ci) hs rfl rfl rfl rfl) rfl ?_
    have hput := tput_spec (page := some page) (tp := tp) hs hr0.up hkd (fun p h => by cases h; exact hp)
    refine zc rfl (hput) ?_
    rintro _ w (⟨k, s', hm, hkl, rfl, hs⟩ | ⟨e, s', he, hm, k, rfl, hs⟩)
    · refine zz ?_
      refine MC.la true (la_loadV (vs := ndC n pk pv pi ck cv ci) hs rfl rfl rfl rfl) rfl ?_
      have hcall := nsize_spec hs hr0.up
      refine zc rfl (hcall) ?_
      rintro _ w ⟨rfl, hs⟩
      refine MC.pure (f := true) (po_build (ls := [(0, [int ((k : Nat) : Int)]), (1, [int (-1)]), (3, [int ((n.size : Nat) : Int)])]) (out := mdC ((k : Nat) : Int) (-1) (.slice none 0 0) ((n.size : Nat) : Int)) rfl rfl ⟨⟨_, rfl, by simp⟩, ⟨_, rfl, by simp⟩, ⟨_, rfl, by simp⟩, trivial⟩ rfl) rfl ?_
      refine zz ?_
      refine MC.does true (does_store (vs := mdC ((k : Nat) : Int) (-1) (.slice none 0 0) ((n.size : Nat) : Int)) hs rfl rfl rfl rfl (all1 rfl) (by simp)) rfl ?_; intro _ w hs; rw [splice_all (by rfl)] at hs
      refine zz ?_
      refine MC.retR (vs := [.agg (mdC ((k : Nat) : Int) (-1) (.slice none 0 0) ((n.size : Nat) : Int)).toArray, int 0]) ⟨⟨⟨b6, 0, none⟩, rfl, load_cellA hs rfl⟩, rfl, trivial⟩ ?_
      refine .inl ⟨⟨k, none, [], n.size⟩, s', ?_, ⟨hkl, fun o h => (by cases h), by show n.size ≤ _; omega, Nat.zero_le _⟩, .slice none 0 0, rfl, ((hs.pickF 3 [0] rfl rfl).sl_nil _ _)⟩
      unfold saveM
      rw [if_pos hri]
      exact .inr ⟨k, s', hm, rfl, rfl⟩
    · refine zz ?_
      refine MC.la true (la_loadV (vs := ndC n pk pv pi ck cv ci) hs rfl rfl rfl rfl) rfl ?_
      have hcall := nsize_spec hs hr0.up
      refine zc rfl (hcall) ?_
      rintro _ w ⟨rfl, hs⟩
      refine MC.pure (f := true) (po_build (ls := [(0, [int k]), (1, [int (-1)]), (3, [int ((n.size : Nat) : Int)])]) (out := mdC k (-1) (.slice none 0 0) ((n.size : Nat) : Int)) rfl rfl ⟨⟨_, rfl, by simp⟩, ⟨_, rfl, by simp⟩, ⟨_, rfl, by simp⟩, trivial⟩ rfl) rfl ?_
      refine zz ?_
      refine MC.does true (does_store (vs := mdC k (-1) (.slice none 0 0) ((n.size : Nat) : Int)) hs rfl rfl rfl rfl (all1 rfl) (by simp)) rfl ?_; intro _ w hs; rw [splice_all (by rfl)] at hs
      refine zz ?_
      refine MC.retR (vs := [.agg (mdC k (-1) (.slice none 0 0) ((n.size : Nat) : Int)).toArray, int e]) ⟨⟨⟨b6, 0, none⟩, rfl, load_cellA hs rfl⟩, rfl, trivial⟩ ?_
      refine .inr ⟨e, s', he, ?_, _, _, _, _, _, _, rfl, hs.pickF 3 [0] rfl rfl⟩
      unfold saveM
      rw [if_pos hri]
      exact .inl ⟨e, hm, rfl⟩
  · rw [decide_eq_false hri]
    refine zz ?_
    refine MC.la true (la_loadV (vs := ndC n pk pv pi ck cv ci) hs rfl rfl rfl rfl) rfl ?_
    have hcall := split_spec hs hr0.up hkd
    refine zc rfl (hcall) ?_
    intro v w hv
    unfold SplitOut at hv
    cases hsp : n.split with
    | none =>
      rw [hsp] at hv
      obtain ⟨rfl, hs⟩ := hv
      refine zz ?_
      refine MC.does true (does_alloc hs) rfl ?_; rintro _ w ⟨b10, rfl, hs⟩
      refine MC.does true (does_alloc hs) rfl ?_; rintro _ w ⟨b11, rfl, hs⟩
      refine MC.does true (does_store (vs := zeroN) hs rfl rfl rfl rfl (all1 rfl) (by simp)) rfl ?_; intro _ w hs; rw [splice_all (by rfl)] at hs
      refine MC.does true (does_store (vs := zeroN) hs rfl rfl rfl rfl (all1 rfl) (by simp)) rfl ?_; intro _ w hs; rw [splice_all (by rfl)] at hs
      refine zz ?_
      refine MC.pure (f := true) (po_build (ls := []) (out := mdC 0 0 (.slice none 0 0) 0) rfl rfl trivial rfl) rfl ?_
      refine zz ?_
      refine MC.does true (does_store (vs := mdC 0 0 (.slice none 0 0) 0) hs rfl rfl rfl rfl (all1 rfl) (by simp)) rfl ?_; intro _ w hs; rw [splice_all (by rfl)] at hs
      refine zz ?_
      refine MC.retR (vs := [.agg (mdC 0 0 (.slice none 0 0) 0).toArray, int 200]) ⟨⟨⟨b6, 0, none⟩, rfl, load_cellA hs rfl⟩, rfl, trivial⟩ ?_
      refine .inr ⟨200, s, by decide, ?_, _, _, _, _, _, _, rfl, hs.pickF 5 [2] rfl rfl⟩
      unfold saveM
      rw [if_neg hri, hsp]
      exact ⟨rfl, rfl⟩
    | some x =>
      obtain ⟨l, r', key⟩ := x
      rw [hsp] at hv
      obtain ⟨yl, yr, vk, pool, hinl, hinr, rfl, hs⟩ := hv
      obtain ⟨⟨l1, l2, l3⟩, ⟨r1, r2, r3⟩, ⟨l4, l5, l6⟩, ⟨r4, r5, r6⟩, hkey⟩ := split_sub hsp
      obtain ⟨lsk, lsv, lsi, lrk, lrv⟩ := yl
      obtain ⟨rsk, rsv, rsi, rrk, rrv⟩ := yr
      dsimp only [] at hs
      obtain ⟨_, q0, c0, rfl, _⟩ := hs.sl_len
      have hs := hs.pickF 11 [8, 9, 10, 1, 2, 3, 4, 5, 6, 7, 0] rfl rfl
      have hd := hs.tail.tail.tail
      obtain ⟨_, q1, c1, rfl, _⟩ := hd.tail.sl_len
      obtain ⟨_, q2, c2, rfl, _⟩ := hd.tail.tail.sl_len
      obtain ⟨_, q3, c3, rfl, _⟩ := hd.tail.tail.tail.sl_len
      obtain ⟨_, q4, c4, rfl, _⟩ := hd.tail.tail.tail.tail.sl_len
      obtain ⟨_, q5, c5, rfl, _⟩ := hd.tail.tail.tail.tail.tail.sl_len
      obtain ⟨_, q6, c6, rfl, _⟩ := hd.tail.tail.tail.tail.tail.tail.sl_len
      have hrl := hinl.read2 hd (RdS.of_sl hd.tail) (RdS.of_sl hd.tail.tail).up (RdS.of_sl hd.tail.tail.tail).up ⟨by omega, by omega, by omega⟩ (fun k h => hks k (l1 k h)) (fun k h => hvs k (l2 k h))
      have hrr := hinr.read2 hd (RdS.of_sl hd.tail.tail.tail.tail).up (RdS.of_sl hd.tail.tail.tail.tail.tail).up (RdS.of_sl hd.tail.tail.tail.tail.tail.tail).up ⟨by omega, by omega, by omega⟩ (fun k h => hks k (r1 k h)) (fun k h => hvs k (r2 k h))
      have hkeyl : key.length ≤ 1000 := by
        rcases hkey with h | h
        · rw [h]; exact Nat.zero_le _
        · exact hks _ h
      have hmm : ∀ (e : Int) (s' : St), (putNM z.E (some page) l s (.err e) s' → saveM z.E page n s (.err e) s') := fun e s' h => by
        unfold saveM; rw [if_neg hri, hsp]; exact .inl ⟨e, h, rfl⟩
      have hm2 : ∀ (a : Nat) (s1 : St) (e : Int) (s' : St), putNM z.E (some page) l s (.ok a) s1 → putNM z.E none r' s1 (.err e) s' → saveM z.E page n s (.err e) s' := fun a s1 e s' h1 h2 => by
        unfold saveM; rw [if_neg hri, hsp]; exact .inr ⟨a, s1, h1, .inl ⟨e, h2, rfl⟩⟩
      have hm3 : ∀ (a : Nat) (s1 : St) (b : Nat) (s' : St), putNM z.E (some page) l s (.ok a) s1 → putNM z.E none r' s1 (.ok b) s' → saveM z.E page n s (.ok ⟨a, some b, key, 256⟩) s' := fun a s1 e s' h1 h2 => by
        unfold saveM; rw [if_neg hri, hsp]; exact .inr ⟨a, s1, h1, .inr ⟨e, s', h2, rfl, rfl⟩⟩
      refine zz ?_
      refine MC.does true (does_alloc hs) rfl ?_; rintro _ w ⟨b10, rfl, hs⟩
      refine MC.does true (does_alloc hs) rfl ?_; rintro _ w ⟨b11, rfl, hs⟩
      refine MC.does true (does_store (vs := [bool l.leaf, .slice q1 l.keys.length c1, .slice q2 l.vals.length c2, .slice q3 l.kids.length c3]) hs rfl rfl rfl rfl (all1 rfl) (by simp)) rfl ?_; intro _ w hs; rw [splice_all (by rfl)] at hs
      refine MC.does true (does_store (vs := [bool r'.leaf, .slice q4 r'.keys.length c4, .slice q5 r'.vals.length c5, .slice q6 r'.kids.length c6]) hs rfl rfl rfl rfl (all1 rfl) (by simp)) rfl ?_; intro _ w hs; rw [splice_all (by rfl)] at hs
      refine zz ?_
      refine MC.la true (la_loadV (vs := [bool l.leaf, .slice q1 l.keys.length c1, .slice q2 l.vals.length c2, .slice q3 l.kids.length c3]) hs rfl rfl rfl rfl) rfl ?_
      have hs := hs.pickF 5 [2, 0, 1, 3, 4] rfl rfl
      have hput := tput_spec (page := some page) (tp := tp) hs hrl.up (fun k h => hkd k (l3 k h)) (fun p h => by cases h; exact hp)
      refine zc rfl (hput) ?_
      rintro _ w (⟨ka, s1, hma, hal, rfl, hs⟩ | ⟨e, s', he, hma, ka, rfl, hs⟩)
      · refine zz ?_
        refine MC.la true (la_loadV (vs := [bool r'.leaf, .slice q4 r'.keys.length c4, .slice q5 r'.vals.length c5, .slice q6 r'.kids.length c6]) hs rfl rfl rfl rfl) rfl ?_
        have hput := tput_spec (page := none) (tp := tp) hs hrr.up (fun k h => hkd k (r3 k h)) (fun p h => by cases h)
        refine zc rfl (hput) ?_
        rintro _ w (⟨kb, s2, hmb, hbl, rfl, hs⟩ | ⟨e, s', he, hmb, kb, rfl, hs⟩)
        · refine zz ?_
          refine MC.pure (f := true) (po_build (ls := [(0, [int ((ka : Nat) : Int)]), (1, [int ((kb : Nat) : Int)]), (2, [.slice q0 key.length c0]), (3, [int 256])]) (out := mdC ((ka : Nat) : Int) ((kb : Nat) : Int) (.slice q0 key.length c0) 256) rfl rfl ⟨⟨_, rfl, by simp⟩, ⟨_, rfl, by simp⟩, ⟨_, rfl, by simp⟩, ⟨_, rfl, by simp⟩, trivial⟩ rfl) rfl ?_
          refine zz ?_
          refine MC.does true (does_store (vs := mdC ((ka : Nat) : Int) ((kb : Nat) : Int) (.slice q0 key.length c0) 256) hs rfl rfl rfl rfl (all1 rfl) (by simp)) rfl ?_; intro _ w hs; rw [splice_all (by rfl)] at hs
          refine zz ?_
          refine MC.retR (vs := [.agg (mdC ((ka : Nat) : Int) ((kb : Nat) : Int) (.slice q0 key.length c0) 256).toArray, int 0]) ⟨⟨⟨b6, 0, none⟩, rfl, load_cellA hs rfl⟩, rfl, trivial⟩ ?_
          refine .inl ⟨⟨ka, some kb, key, 256⟩, s2, hm3 _ _ _ _ hma hmb, ⟨hal, fun o h => (by cases h; exact hbl), by show 256 ≤ _; omega, hkeyl⟩, .slice q0 key.length c0, rfl, ?_⟩
          exact hs.pickF 13 [12, 0] rfl rfl
        · refine zz ?_
          refine MC.pure (f := true) (po_build (ls := [(0, [int ((ka : Nat) : Int)]), (1, [int kb]), (2, [.slice q0 key.length c0]), (3, [int 256])]) (out := mdC ((ka : Nat) : Int) kb (.slice q0 key.length c0) 256) rfl rfl ⟨⟨_, rfl, by simp⟩, ⟨_, rfl, by simp⟩, ⟨_, rfl, by simp⟩, ⟨_, rfl, by simp⟩, trivial⟩ rfl) rfl ?_
          refine zz ?_
          refine MC.does true (does_store (vs := mdC ((ka : Nat) : Int) kb (.slice q0 key.length c0) 256) hs rfl rfl rfl rfl (all1 rfl) (by simp)) rfl ?_; intro _ w hs; rw [splice_all (by rfl)] at hs
          refine zz ?_
          refine MC.retR (vs := [.agg (mdC ((ka : Nat) : Int) kb (.slice q0 key.length c0) 256).toArray, int e]) ⟨⟨⟨b6, 0, none⟩, rfl, load_cellA hs rfl⟩, rfl, trivial⟩ ?_
          exact .inr ⟨e, s', he, hm2 _ _ _ _ hma hmb, _, _, _, _, _, _, rfl, hs.pickF 13 [0] rfl rfl⟩
      · refine zz ?_
        refine MC.pure (f := true) (po_build (ls := []) (out := mdC 0 0 (.slice none 0 0) 0) rfl rfl trivial rfl) rfl ?_
        refine zz ?_
        refine MC.does true (does_store (vs := mdC 0 0 (.slice none 0 0) 0) hs rfl rfl rfl rfl (all1 rfl) (by simp)) rfl ?_; intro _ w hs; rw [splice_all (by rfl)] at hs
        refine zz ?_
        refine MC.retR (vs := [.agg (mdC 0 0 (.slice none 0 0) 0).toArray, int e]) ⟨⟨⟨b6, 0, none⟩, rfl, load_cellA hs rfl⟩, rfl, trivial⟩ ?_
        exact .inr ⟨e, s', he, hmm _ _ hma, _, _, _, _, _, _, rfl, hs.pickF 13 [0] rfl rfl⟩
end
end Go.Proofs.YtkccjgllanpebaaGreatDoor
