/-
  Reading a key: a value | Trees: read, level, far, value, cell, lose
-/
import Derived.Test.YtkccjgllanpebaaGreatDoorYbc
set_option maxHeartbeats 1000000
set_option linter.unusedVariables false
set_option linter.unusedSimpArgs false
namespace Go.Proofs.YtkccjgllanpebaaGreatDoor
open Go Go.Sl Go.Tr Go.Kv Go.Ms
attribute [local irreducible] LooksAt
set_option maxHeartbeats 8000000 in
theorem rvalue_spec : ∀ (v : V) {F F0 : List Assn} {r0 : List Value} {br n c i d : Nat} {q : Option Addr} {b pre rest : Bs} {w : World} (hs : Sat (rdr br q n c i :: F) w) (hT : Tabs F) (hb : RdS F 1 (.slice q n c) n (bytesV b)) (he : b = pre ++ (putV v ++ rest)) (hi : pre.length = i) (hn : b.length = n) (hN : n ≤ 100000)
    (hv : VR F0 v r0) (hO : okV v) (hz : sizeV v ≤ 1000) (hd : shV v d = true) (hd48 : d ≤ 48),
    Ret Tryz.prog 37 [ptr br, int ((d : Nat) : Int)] w fun u w' => ∃ (r : List Value) (G : List Assn), u = .agg r.toArray ∧ VR G v r ∧ Sat (rdr br q n c (i + (putV v).length) :: (G ++ F)) w' := by
  refine V.ind ?_
  intro k m e t l ks ih F F0 r0 br n c i d q b pre rest w hs hT hb he hi hn hN hv hO hz hd hd48
  obtain ⟨ql0, qk0, cl0, ck0, rows0, rfl, hcl0, hck0, hl0, hvl0, hk0, hfit⟩ := hv.open_
  obtain ⟨d, rfl⟩ : ∃ d', d = d' + 1 := by
    cases d with
    | zero => simp [shV] at hd
    | succ d => exact ⟨d, rfl⟩
  obtain ⟨⟨k1, k2⟩, n1, t1, l1, q1, N1, y1, L1⟩ := hO
  obtain ⟨z2, z3, z4⟩ := sizeV_sub (k := k) (m := m) (e := e) (t := t) (l := l) (ks := ks)
  refine Ret.enter [(true, ptr br), (true, int ((d + 1 : Nat) : Int))] _ Tryz.func37 rfl Tryz.ntmps37 rfl ?_
  refine zz ?_
  refine MC.does true (does_alloc hs) rfl ?_; rintro _ w ⟨b4, rfl, hs⟩
  have hs := hs.pickF 2 [1, 0] rfl rfl
  obtain ⟨tail, htail⟩ : ∃ tail, putV (.mk k m e t l ks) = kindB k :: tail := ⟨_, by rw [putV]⟩
  have hkb : ((kindB k).toNat : Int) = k + 1 := by unfold kindB; rw [nat_of_u8 (by omega)]; omega
  refine zz ?_
  refine zc rfl (next_spec hs hb.up (x := kindB k) (rest := tail ++ rest) (by rw [he, htail]; rfl) hi hn hN) ?_
  rintro _ w ⟨rfl, hs⟩
  refine zz ?_
  rw [hkb, show k + 1 - 1 = k by omega]
  refine MC.pure (f := true) (po_build (ls := [(0, [int k])]) (out := [int k, int 0, int 0, str [], .slice none 0 0, .slice none 0 0]) rfl rfl ⟨⟨_, rfl, by simp⟩, trivial⟩ rfl) rfl ?_
  refine zz ?_
  refine MC.does true (does_alloc hs) rfl ?_; rintro _ w ⟨b5, rfl, hs⟩
  refine zz ?_
  refine MC.does true (does_store (vs := [int k, int 0, int 0, str [], .slice none 0 0, .slice none 0 0]) hs rfl rfl rfl rfl (all1 rfl) (by simp)) rfl ?_; intro _ w hs; rw [splice_all (by rfl)] at hs
  have hs := hs.pickF 3 [1, 0, 2] rfl rfl
  refine MC.run1 tab 2 rfl rfl True.intro ?_
  obtain ⟨P, hP⟩ : ∃ P, putV (.mk k m e t l ks) = P := ⟨_, rfl⟩
  rw [hP] at he htail ⊢
  refine MC.cutAtS (σ := Unit) 1 (fun _ => [(4, true, ptr b4), (5, true, ptr b5)]) (fun _ w => ∃ (vx vk : Value) (H : List Assn) (rows' : List (List Value)), VL H l rows' ∧ Sat (rdr br q n c (i + P.length) :: blk b5 [int k, int m, int e, str t, vx, vk] 32 :: blk b4 [int 0, int 0, int 0, str [], .slice none 0 0, .slice none 0 0] 32 :: sl vx 32 6 l.length rows'.flatten :: sl vk 9 1 ks.length (strsV ks) :: (H ++ F)) w) rfl ?_ ?_
  rotate_left
  · (try dsimp only [List.drop_succ_cons, List.drop_zero, List.take_succ_cons, List.take_zero, List.cons_append, List.nil_append])
    have hput : P = kindB k :: (if k = 3 then numK m e else if k = 4 then textK t else (if k = 6 then keysK ks else []) ++ (putL l ++ if k = 5 then [0] else [])) := by rw [← hP, putV]
    have hnil : ∀ {w : World} {G : List Assn}, Sat (rdr br q n c (i + P.length) :: blk b5 [int k, int m, int e, str t, .slice none 0 0, .slice none 0 0] 32 :: blk b4 [int 0, int 0, int 0, str [], .slice none 0 0, .slice none 0 0] 32 :: F) w → l = [] → ks = [] → ∃ (vx vk : Value) (H : List Assn) (rows' : List (List Value)), VL H l rows' ∧ Sat (rdr br q n c (i + P.length) :: blk b5 [int k, int m, int e, str t, vx, vk] 32 :: blk b4 [int 0, int 0, int 0, str [], .slice none 0 0, .slice none 0 0] 32 :: sl vx 32 6 l.length rows'.flatten :: sl vk 9 1 ks.length (strsV ks) :: (H ++ F)) w := by
      intro w G hs hl hk
      subst hl hk
      have h1 := (hs.sl_nil 9 1).sl_nil 32 6
      exact ⟨_, _, [], [], VL.nil _, (h1.pickF 5 [2, 3, 4, 0, 1] rfl rfl)⟩
    rcases (show k = 0 ∨ k = 1 ∨ k = 2 ∨ k = 3 ∨ k = 4 ∨ k = 5 ∨ k = 6 by omega) with hk | hk | hk | hk | hk | hk | hk <;> subst hk
    · obtain ⟨rfl, rfl⟩ := n1 (by omega)
      have ht := t1 (by omega)
      have hl := l1 (by omega)
      have hks := q1 (by omega)
      have hlen : P.length = 1 := by rw [hput, hl]; rfl
      rw [← hlen] at hs
      subst ht
      refine zz ?_
      exact MC.meetS () zi (hnil (G := []) hs hl hks)
    · obtain ⟨rfl, rfl⟩ := n1 (by omega)
      have ht := t1 (by omega)
      have hl := l1 (by omega)
      have hks := q1 (by omega)
      have hlen : P.length = 1 := by rw [hput, hl]; rfl
      rw [← hlen] at hs
      subst ht
      refine zz ?_
      exact MC.meetS () zi (hnil (G := []) hs hl hks)
    · obtain ⟨rfl, rfl⟩ := n1 (by omega)
      have ht := t1 (by omega)
      have hl := l1 (by omega)
      have hks := q1 (by omega)
      have hlen : P.length = 1 := by rw [hput, hl]; rfl
      rw [← hlen] at hs
      subst ht
      refine zz ?_
      exact MC.meetS () zi (hnil (G := []) hs hl hks)
    · have ht := t1 (by omega)
      have hl := l1 (by omega)
      have hks := q1 (by omega)
      have hput2 : P = kindB 3 :: numK m e := by rw [hput]; rfl
      subst ht
      refine zz ?_
      refine zc rfl (rdigits_spec hs hT.up hb.up (pre := pre ++ [kindB 3]) (m := m) (e := e) (rest := rest) (by rw [he, hput2]; simp) hfit.im N1 (by rw [List.length_append, List.length_singleton]; omega) hn hN) ?_
      rintro _ w ⟨rfl, hs⟩
      have hlen : i + 1 + (numK m e).length = i + P.length := by rw [hput2, List.length_cons]; omega
      rw [hlen] at hs
      refine zz ?_
      refine MC.does true (does_store (vs := [int m, int e]) hs rfl rfl rfl rfl (all1 rfl) (by simp)) rfl ?_; intro _ w hs
      refine zz ?_
      exact MC.meetS () zi (hnil (G := []) hs hl hks)
    · obtain ⟨rfl, rfl⟩ := n1 (by omega)
      have hl := l1 (by omega)
      have hks := q1 (by omega)
      have hput2 : P = kindB 4 :: textK t := by rw [hput]; rfl
      refine zz ?_
      refine zc rfl (rtext_spec hs hb.up (pre := pre ++ [kindB 4]) (s := t) (rest := rest) (by rw [he, hput2]; simp) (by rw [List.length_append, List.length_singleton]; omega) hn hN) ?_
      rintro _ w ⟨rfl, hs⟩
      have hlen : i + 1 + (textK t).length = i + P.length := by rw [hput2, List.length_cons]; omega
      rw [hlen] at hs
      refine zz ?_
      refine MC.does true (does_store1 hs rfl rfl rfl (by simp)) rfl ?_; intro _ w hs
      refine zz ?_
      exact MC.meetS () zi (hnil (G := []) hs hl hks)
    · obtain ⟨rfl, rfl⟩ := n1 (by omega)
      have ht := t1 (by omega)
      have hks := q1 (by omega)
      subst ht hks
      have hput2 : P = kindB 5 :: (putL l ++ [0]) := by rw [hput]; rfl
      have hll := sizeL_len l
      refine zz ?_
      have hs := ((hs.sl_nil 32 6).pickF 4 [1, 2, 0, 3] rfl rfl)
      have hpsp : ∀ j (hj : j < l.length), putL l = putL (l.take j) ++ (putV l[j] ++ putL (l.drop (j + 1))) := fun j hj => by
        have e : ∀ a c : List V, putL (a ++ c) = putL a ++ putL c := fun a => by
          induction a with
          | nil => intro c; rw [putL_n]; rfl
          | cons x a ih => intro c; rw [List.cons_append, putL_c, putL_c, ih, List.append_assoc]
        rw [← putL_c, ← List.drop_eq_getElem_cons hj, ← e, List.take_append_drop]
      refine MC.loop (σ := Nat × Value) (fun s => [(0, true, ptr br), (1, true, int ((d + 1 : Nat) : Int)), (4, true, ptr b4), (5, true, ptr b5)])
        (fun s w => s.1 ≤ l.length ∧ ∃ (H : List Assn) (rows' : List (List Value)), VL H (l.take s.1) rows' ∧ Sat (rdr br q n c (i + 1 + (putL (l.take s.1)).length) :: blk b5 [int 5, int 0, int 0, str [], s.2, .slice none 0 0] 32 :: sl s.2 32 6 s.1 rows'.flatten :: blk b4 [int 0, int 0, int 0, str [], .slice none 0 0, .slice none 0 0] 32 :: (H ++ F)) w) (fun s => l.length - s.1) (0, .slice none 0 0) zi ⟨Nat.zero_le _, [], [], VL.nil _, by rw [List.take_zero, putL_n]; exact hs⟩ ?_
      clear hs
      rintro ⟨j, vx⟩ w ⟨hj, H, rows', hH, hs⟩
      dsimp only [] at hj hH hs ⊢
      obtain ⟨_, qx, cx, rfl, hcx⟩ := (hs.pickF 3 [2] rfl rfl).sl_len
      rcases Nat.lt_or_ge j l.length with hlt | hge
      · have hsp := hpsp j hlt
        have hri : j < rows0.length := by rw [hvl0.len]; exact hlt
        have hvr := hvl0.row j l[j] rows0[j] (List.getElem?_eq_getElem hlt) (List.getElem?_eq_getElem hri)
        have hok := VLok L1 j hlt
        have hzj := sizeL_mem (List.getElem_mem hlt)
        have hdj : shV l[j] d = true := by
          have h := hd
          rw [shV, shL_all] at h
          exact List.all_eq_true.1 h _ (List.getElem_mem hlt)
        have htk : l.take (j + 1) = l.take j ++ [l[j]] := take_snoc hlt
        have hih := @ih l[j] (List.getElem_mem hlt)
        obtain ⟨x, hx⟩ : ∃ x, l[j] = x := ⟨_, rfl⟩
        rw [hx] at hsp hvr hok hzj hdj htk hih
        obtain ⟨k', m', e', t', l', ks'⟩ := x
        obtain ⟨tl, htl⟩ : ∃ tl, putV (.mk k' m' e' t' l' ks') = kindB k' :: tl := ⟨_, by rw [putV]⟩
        have hkb' : kindB k' ≠ 0 := fun h => by
          have h1 : (kindB k').toNat = 0 := by rw [h]; rfl
          obtain ⟨⟨a1, a2⟩, _⟩ := hok
          unfold kindB at h1; rw [nat_of_u8 (by omega)] at h1; omega
        refine zz ?_
        refine zc rfl (ends_no hs (@RdS.up _ _ _ _ _ _ hb ⟨fun w h => (suf_app H F).out w h.tail.tail.tail⟩) (pre := pre ++ [kindB 5] ++ putL (l.take j)) (x := kindB k') (rest := tl ++ (putL (l.drop (j + 1)) ++ [0] ++ rest)) (by rw [he, hput2, hsp, htl]; simp) hkb' (by simp only [List.length_append, List.length_singleton]; omega) hn hN) ?_
        rintro _ w ⟨rfl, hs⟩
        refine zz ?_
        refine MC.draw hs [0, 1, 2, 3, 4, 5, 6, 7, 8, 9] (by rfl) ?_; intro w hs
        refine zd ?_
        rw [show ((d + 1 : Nat) : Int) - 1 = ((d : Nat) : Int) by omega] at *
        refine MC.doesK true (does_call rfl (hih hs hT.up hb.up (pre := pre ++ [kindB 5] ++ putL (l.take j)) (rest := putL (l.drop (j + 1)) ++ [0] ++ rest) (by rw [he, hput2, hsp]; simp) (by simp only [List.length_append, List.length_singleton]; omega) hn hN hvr hok (by omega) hdj (by omega))) rfl rfl rfl ?_
        rintro _ w ⟨r', G, rfl, hG, hs⟩
        have hG0 := hG
        obtain ⟨ql2, qk2, cl2, ck2, rws2, rfl, -⟩ := hG.open_
        have hs : Sat (rdr br q n c (i + 1 + (putL (l.take j)).length + (putV (.mk k' m' e' t' l' ks')).length) :: blk b5 [int 5, int 0, int 0, str [], .slice qx j cx, .slice none 0 0] 32 :: sl (.slice qx j cx) 32 6 j rows'.flatten :: blk b4 [int 0, int 0, int 0, str [], .slice none 0 0, .slice none 0 0] 32 :: ((G ++ H) ++ F)) w := by
          refine Sat.perm (List.Perm.cons _ ?_) hs
          rw [List.append_assoc]
          exact List.perm_append_comm_assoc G [_, _, _] (H ++ F)
        refine zh ?_
        refine zd ?_
        refine MC.doesK true (does_buildSlice (vs := [(0, .agg #[int k', int m', int e', str t', .slice ql2 l'.length cl2, .slice qk2 ks'.length ck2])]) (ls := [(0, [int k', int m', int e', str t', .slice ql2 l'.length cl2, .slice qk2 ks'.length ck2])]) (out := [int k', int m', int e', str t', .slice ql2 l'.length cl2, .slice qk2 ks'.length ck2]) hs rfl rfl ⟨⟨_, rfl, by simp [rep]⟩, trivial⟩ rfl rfl) rfl rfl rfl ?_
        rintro _ w ⟨b8, rfl, hs⟩; refine zh ?_
        refine zd ?_
        have hs := Sat.sl_mk (size := 6) (n := 1) (c := 1) (xs := [int k', int m', int e', str t', .slice ql2 l'.length cl2, .slice qk2 ks'.length ck2]) (spare := []) hs (Nat.le_refl _) rfl rfl
        have hs := hs.pickF 5 [3, 0, 1, 2, 4] rfl rfl
        have hr8 := RdS.of_sl hs.tail
        refine MC.doesK true (does_append hs rfl rfl (RdS.src hr8 (fun u hu => by simp only [List.mem_cons, List.not_mem_nil, or_false] at hu; rcases hu with rfl | rfl | rfl | rfl | rfl | rfl <;> rfl)) (by omega) (by omega)) rfl rfl rfl ?_
        intro vn w hs; refine zh ?_
        obtain ⟨_, qn, cn, rfl, _⟩ := hs.sl_len
        refine zd ?_
        have hs := hs.pickF 5 [3, 2, 0, 4] rfl rfl
        refine MC.doesD true (does_store1 hs rfl rfl rfl (by simp)) rfl rfl rfl rfl ?_; intro _ w hs
        refine zz ?_
        have hs := hs.pickF 2 [1, 0] rfl rfl
        have hN2 : VL (G ++ H) (l.take (j + 1)) (rows' ++ [[int k', int m', int e', str t', .slice ql2 l'.length cl2, .slice qk2 ks'.length ck2]]) := by rw [htk]; exact VL.snoc (@VL.up _ _ (suf_app G H) _ _ hH) (@VR.up _ _ (suf_left G H) _ _ hG0)
        rw [← flat_snoc] at hs
        have hln : i + 1 + (putL (l.take j)).length + (putV (.mk k' m' e' t' l' ks')).length = i + 1 + (putL (l.take (j + 1))).length := by rw [htk, putL_snoc, List.length_append]; omega
        rw [hln] at hs
        exact MC.again (j + 1, .slice qn (j + 1) cn) zi ⟨hlt, G ++ H, _, hN2, hs⟩ (by show l.length - (j + 1) < l.length - j; omega)
      · obtain rfl : j = l.length := by omega
        rw [List.take_length] at hs hH
        refine zz ?_
        refine zc rfl (ends_yes hs (@RdS.up _ _ _ _ _ _ hb ⟨fun w h => (suf_app H F).out w h.tail.tail.tail⟩) (pre := pre ++ [kindB 5] ++ putL l) (rest := rest) (by rw [he, hput2]; simp) (by simp only [List.length_append, List.length_singleton]; omega) hn hN) ?_
        rintro _ w ⟨rfl, hs⟩
        refine zz ?_
        have hlen : i + 1 + (putL l).length + 1 = i + P.length := by rw [hput2, List.length_cons, List.length_append, List.length_singleton]; omega
        rw [hlen] at hs
        exact MC.meetS () zi ⟨_, _, H, rows', hH, (hs.sl_nil 9 1).pickF 5 [1, 2, 4, 3, 0] rfl rfl⟩
    · obtain ⟨rfl, rfl⟩ := n1 (by omega)
      have ht := t1 (by omega)
      have hkl := y1 rfl
      subst ht
      have hput2 : P = kindB 6 :: (keysK ks ++ putL l) := by rw [hput]; simp
      have hll := sizeL_len l
      obtain ⟨KF, hKF⟩ : ∃ KF : List Bs → Bs, KF = fun l => l.flatMap fun k => 5 :: textK k := ⟨_, rfl⟩
      have hkk : keysK ks = KF ks ++ [0] := by rw [hKF]; rfl
      have hks0 : KF [] = [] := by rw [hKF]; rfl
      have hksn : ∀ a x, KF (a ++ [x]) = KF a ++ (5 :: textK x) := fun a x => by rw [hKF]; simp
      have hkap : ∀ a c, KF (a ++ c) = KF a ++ KF c := fun a c => by rw [hKF]; exact List.flatMap_append
      have hkc : ∀ x c, KF (x :: c) = 5 :: textK x ++ KF c := fun x c => by rw [hKF]; exact List.flatMap_cons
      refine zz ?_
      have hs := ((hs.sl_nil 9 1).pickF 4 [1, 2, 0, 3] rfl rfl)
      refine MC.cutAtS (σ := Value) 2 (fun vk => [(0, true, ptr br), (1, true, int ((d + 1 : Nat) : Int)), (4, true, ptr b4), (5, true, ptr b5)])
        (fun vk w => Sat (rdr br q n c (i + 1 + (keysK ks).length) :: blk b5 [int 6, int 0, int 0, str [], .slice none 0 0, vk] 32 :: sl vk 9 1 ks.length (strsV ks) :: blk b4 [int 0, int 0, int 0, str [], .slice none 0 0, .slice none 0 0] 32 :: F) w) rfl ?_ ?_
      rotate_left
      · (try dsimp only [List.drop_succ_cons, List.drop_zero, List.take_succ_cons, List.take_zero, List.cons_append, List.nil_append])
        refine MC.loop (σ := Nat × Value) (fun s => [(0, true, ptr br), (1, true, int ((d + 1 : Nat) : Int)), (4, true, ptr b4), (5, true, ptr b5)])
          (fun s w => s.1 ≤ ks.length ∧ Sat (rdr br q n c (i + 1 + (KF (ks.take s.1)).length) :: blk b5 [int 6, int 0, int 0, str [], .slice none 0 0, s.2] 32 :: sl s.2 9 1 s.1 (strsV (ks.take s.1)) :: blk b4 [int 0, int 0, int 0, str [], .slice none 0 0, .slice none 0 0] 32 :: F) w) (fun s => ks.length - s.1) (0, .slice none 0 0) zi ⟨Nat.zero_le _, by rw [List.take_zero, hks0]; exact hs⟩ ?_
        clear hs
        rintro ⟨j, vx⟩ w ⟨hj, hs⟩
        dsimp only [] at hj hs ⊢
        obtain ⟨_, qx, cx, rfl, hcx⟩ := (hs.pickF 3 [2] rfl rfl).sl_len
        rcases Nat.lt_or_ge j ks.length with hlt | hge
        · obtain ⟨x, hx⟩ : ∃ x, ks[j] = x := ⟨_, rfl⟩
          have htk : ks.take (j + 1) = ks.take j ++ [x] := by rw [take_snoc hlt, hx]
          have hsp : KF ks = KF (ks.take j) ++ (5 :: textK x ++ KF (ks.drop (j + 1))) := by
            rw [← hkc, ← hkap, ← hx, ← List.drop_eq_getElem_cons hlt, List.take_append_drop]
          refine zz ?_
          refine zc rfl (ends_no hs hb.up (pre := pre ++ [kindB 6] ++ KF (ks.take j)) (x := 5) (rest := textK x ++ KF (ks.drop (j + 1)) ++ [0] ++ putL l ++ rest) (by rw [he, hput2, hkk, hsp]; simp) (by decide) (by simp only [List.length_append, List.length_singleton]; omega) hn hN) ?_
          rintro _ w ⟨rfl, hs⟩
          refine zz ?_
          refine zc rfl (next_spec hs hb.up (pre := pre ++ [kindB 6] ++ KF (ks.take j)) (x := 5) (rest := textK x ++ KF (ks.drop (j + 1)) ++ [0] ++ putL l ++ rest) (by rw [he, hput2, hkk, hsp]; simp) (by simp only [List.length_append, List.length_singleton]; omega) hn hN) ?_
          rintro _ w ⟨rfl, hs⟩
          refine zz ?_
          refine MC.draw hs [0, 1, 2, 3, 4, 5, 6, 7] (by rfl) ?_; intro w hs
          refine zd ?_
          refine MC.doesK true (does_call rfl (rtext_spec hs hb.up (pre := pre ++ [kindB 6] ++ KF (ks.take j) ++ [5]) (s := x) (rest := KF (ks.drop (j + 1)) ++ [0] ++ putL l ++ rest) (by rw [he, hput2, hkk, hsp]; simp) (by simp only [List.length_append, List.length_singleton]; omega) hn hN)) rfl rfl rfl ?_
          rintro _ w ⟨rfl, hs⟩; refine zh ?_
          refine zd ?_
          refine MC.doesK true (does_buildL hs rfl rfl rfl (all1 rfl) rfl) rfl rfl rfl ?_; rintro _ w ⟨b8, rfl, hs⟩; refine zh ?_
          refine zd ?_
          have hs := hs.pickF 5 [3, 0, 1, 2, 4] rfl rfl
          refine MC.doesK true (does_append hs rfl rfl (src_at rfl (all1 rfl)) (by omega) (by omega)) rfl rfl rfl ?_
          intro vn w hs; refine zh ?_
          obtain ⟨_, qn, cn, rfl, _⟩ := hs.sl_len
          refine zd ?_
          have hs := hs.pickF 5 [3, 2, 0, 4] rfl rfl
          refine MC.doesD true (does_store1 hs rfl rfl rfl (by simp)) rfl rfl rfl rfl ?_; intro _ w hs
          refine zz ?_
          have hs := hs.pickF 3 [1, 0, 2] rfl rfl
          have hln : i + 1 + (KF (ks.take j)).length + 1 + (textK x).length = i + 1 + (KF (ks.take (j + 1))).length := by rw [htk, hksn, List.length_append, List.length_cons]; omega
          rw [hln] at hs
          have hst : strsV (ks.take (j + 1)) = strsV (ks.take j) ++ [str x] := by rw [htk]; exact List.map_append
          exact MC.again (j + 1, .slice qn (j + 1) cn) zi ⟨hlt, by dsimp only []; rw [hst]; exact hs⟩ (by show ks.length - (j + 1) < ks.length - j; omega)
        · obtain rfl : j = ks.length := by omega
          rw [List.take_length] at hs
          refine zz ?_
          refine zc rfl (ends_yes hs hb.up (pre := pre ++ [kindB 6] ++ KF ks) (rest := putL l ++ rest) (by rw [he, hput2, hkk]; simp) (by simp only [List.length_append, List.length_singleton]; omega) hn hN) ?_
          rintro _ w ⟨rfl, hs⟩
          refine zz ?_
          have hlen : i + 1 + (KF ks).length + 1 = i + 1 + (keysK ks).length := by rw [hkk, List.length_append]; rfl
          rw [hlen] at hs
          exact MC.meetS _ zi hs
      · clear hs
        rintro vk w hs
        dsimp only [List.drop] at hs ⊢
        obtain ⟨_, qv, cv, rfl, hcv⟩ := (hs.pickF 3 [2] rfl rfl).sl_len
        have hs := ((hs.sl_nil 32 6).pickF 5 [1, 2, 0, 4, 3] rfl rfl)
        refine zz ?_
        have hpsp : ∀ j (hj : j < l.length), putL l = putL (l.take j) ++ (putV l[j] ++ putL (l.drop (j + 1))) := fun j hj => by
          have e : ∀ a c : List V, putL (a ++ c) = putL a ++ putL c := fun a => by
            induction a with
            | nil => intro c; rw [putL_n]; rfl
            | cons x a ih => intro c; rw [List.cons_append, putL_c, putL_c, ih, List.append_assoc]
          rw [← putL_c, ← List.drop_eq_getElem_cons hj, ← e, List.take_append_drop]
        refine MC.loop (σ := Nat × Value) (fun s => [(0, true, ptr br), (1, true, int ((d + 1 : Nat) : Int)), (4, true, ptr b4), (5, true, ptr b5), (63, true, int ((ks.length : Nat) : Int)), (64, true, int ((s.1 : Nat) : Int))])
          (fun s w => s.1 ≤ l.length ∧ ∃ (H : List Assn) (rows' : List (List Value)), VL H (l.take s.1) rows' ∧ Sat (rdr br q n c (i + 1 + (keysK ks).length + (putL (l.take s.1)).length) :: blk b5 [int 6, int 0, int 0, str [], s.2, .slice qv ks.length cv] 32 :: sl s.2 32 6 s.1 rows'.flatten :: blk b4 [int 0, int 0, int 0, str [], .slice none 0 0, .slice none 0 0] 32 :: sl (.slice qv ks.length cv) 9 1 ks.length (strsV ks) :: (H ++ F)) w) (fun s => l.length - s.1) (0, .slice none 0 0) zi ⟨Nat.zero_le _, [], [], VL.nil _, by rw [List.take_zero, putL_n]; exact hs⟩ ?_
        clear hs
        rintro ⟨j, vx⟩ w ⟨hj, H, rows', hH, hs⟩
        dsimp only [] at hj hH hs ⊢
        obtain ⟨_, qx, cx, rfl, hcx⟩ := (hs.pickF 3 [2] rfl rfl).sl_len
        rcases Nat.lt_or_ge j l.length with hlt | hge
        · have hsp := hpsp j hlt
          have hri : j < rows0.length := by rw [hvl0.len]; exact hlt
          have hvr := hvl0.row j l[j] rows0[j] (List.getElem?_eq_getElem hlt) (List.getElem?_eq_getElem hri)
          have hok := VLok L1 j hlt
          have hzj := sizeL_mem (List.getElem_mem hlt)
          have hdj : shV l[j] d = true := by
            have h := hd
            rw [shV, shL_all] at h
            exact List.all_eq_true.1 h _ (List.getElem_mem hlt)
          have htk : l.take (j + 1) = l.take j ++ [l[j]] := take_snoc hlt
          have hih := @ih l[j] (List.getElem_mem hlt)
          obtain ⟨x, hx⟩ : ∃ x, l[j] = x := ⟨_, rfl⟩
          rw [hx] at hsp hvr hok hzj hdj htk hih
          obtain ⟨k', m', e', t', l', ks'⟩ := x
          refine zz ?_
          refine MC.draw hs [0, 1, 2, 3, 4, 5, 6, 7, 8, 9] (by rfl) ?_; intro w hs
          refine zd ?_
          rw [show ((d + 1 : Nat) : Int) - 1 = ((d : Nat) : Int) by omega] at *
          refine MC.doesK true (does_call rfl (hih hs hT.up hb.up (pre := pre ++ [kindB 6] ++ keysK ks ++ putL (l.take j)) (rest := putL (l.drop (j + 1)) ++ rest) (by rw [he, hput2, hsp]; simp) (by simp only [List.length_append, List.length_singleton]; omega) hn hN hvr hok (by omega) hdj (by omega))) rfl rfl rfl ?_
          rintro _ w ⟨r', G, rfl, hG, hs⟩
          have hG0 := hG
          obtain ⟨ql2, qk2, cl2, ck2, rws2, rfl, -⟩ := hG.open_
          have hs : Sat (rdr br q n c (i + 1 + (keysK ks).length + (putL (l.take j)).length + (putV (.mk k' m' e' t' l' ks')).length) :: blk b5 [int 6, int 0, int 0, str [], .slice qx j cx, .slice qv ks.length cv] 32 :: sl (.slice qx j cx) 32 6 j rows'.flatten :: blk b4 [int 0, int 0, int 0, str [], .slice none 0 0, .slice none 0 0] 32 :: sl (.slice qv ks.length cv) 9 1 ks.length (strsV ks) :: ((G ++ H) ++ F)) w := by
            refine Sat.perm (List.Perm.cons _ ?_) hs
            rw [List.append_assoc]
            exact List.perm_append_comm_assoc G [_, _, _, _] (H ++ F)
          refine zh ?_
          refine zd ?_
          refine MC.doesK true (does_buildSlice (vs := [(0, .agg #[int k', int m', int e', str t', .slice ql2 l'.length cl2, .slice qk2 ks'.length ck2])]) (ls := [(0, [int k', int m', int e', str t', .slice ql2 l'.length cl2, .slice qk2 ks'.length ck2])]) (out := [int k', int m', int e', str t', .slice ql2 l'.length cl2, .slice qk2 ks'.length ck2]) hs rfl rfl ⟨⟨_, rfl, by simp [rep]⟩, trivial⟩ rfl rfl) rfl rfl rfl ?_
          rintro _ w ⟨b8, rfl, hs⟩; refine zh ?_
          refine zd ?_
          have hs := Sat.sl_mk (size := 6) (n := 1) (c := 1) (xs := [int k', int m', int e', str t', .slice ql2 l'.length cl2, .slice qk2 ks'.length ck2]) (spare := []) hs (Nat.le_refl _) rfl rfl
          have hs := hs.pickF 6 [3, 0, 1, 2, 4, 5] rfl rfl
          have hr8 := RdS.of_sl hs.tail
          refine MC.doesK true (does_append hs rfl rfl (RdS.src hr8 (fun u hu => by simp only [List.mem_cons, List.not_mem_nil, or_false] at hu; rcases hu with rfl | rfl | rfl | rfl | rfl | rfl <;> rfl)) (by omega) (by omega)) rfl rfl rfl ?_
          intro vn w hs; refine zh ?_
          obtain ⟨_, qn, cn, rfl, _⟩ := hs.sl_len
          refine zd ?_
          have hs := hs.pickF 6 [3, 2, 0, 4, 5] rfl rfl
          refine MC.doesD true (does_store1 hs rfl rfl rfl (by simp)) rfl rfl rfl rfl ?_; intro _ w hs
          refine zz ?_
          have hs := hs.pickF 2 [1, 0] rfl rfl
          have hN2 : VL (G ++ H) (l.take (j + 1)) (rows' ++ [[int k', int m', int e', str t', .slice ql2 l'.length cl2, .slice qk2 ks'.length ck2]]) := by rw [htk]; exact VL.snoc (@VL.up _ _ (suf_app G H) _ _ hH) (@VR.up _ _ (suf_left G H) _ _ hG0)
          rw [← flat_snoc] at hs
          have hln : i + 1 + (keysK ks).length + (putL (l.take j)).length + (putV (.mk k' m' e' t' l' ks')).length = i + 1 + (keysK ks).length + (putL (l.take (j + 1))).length := by rw [htk, putL_snoc, List.length_append]; omega
          rw [hln] at hs
          exact MC.again (j + 1, .slice qn (j + 1) cn) zi ⟨hlt, G ++ H, _, hN2, hs⟩ (by show l.length - (j + 1) < l.length - j; omega)
        · obtain rfl : j = l.length := by omega
          rw [List.take_length] at hs hH
          refine zz ?_
          have hlen : i + 1 + (keysK ks).length + (putL l).length = i + P.length := by rw [hput2, List.length_cons, List.length_append]; omega
          rw [hlen] at hs
          exact MC.meetS () zi ⟨_, _, H, rows', hH, hs.pickF 5 [0, 1, 3, 2, 4] rfl rfl⟩
  · clear hs
    rintro _ w ⟨vx, vk, H, rows', hVL, hs⟩
    dsimp only [List.drop] at hs ⊢
    obtain ⟨_, qx, cx, rfl, hcx⟩ := (hs.pickF 4 [3] rfl rfl).sl_len
    obtain ⟨_, qk, ck, rfl, hck⟩ := (hs.pickF 5 [4] rfl rfl).sl_len
    refine zz ?_
    have hs := hs.pickF 5 [1, 2, 0, 3, 4] rfl rfl
    refine MC.la true (la_loadV hs rfl (vs := [int k, int m, int e, str t, .slice qx l.length cx, .slice qk ks.length ck]) rfl rfl rfl) rfl ?_
    refine zz ?_
    have hs := hs.pickF 5 [1, 2, 0, 3, 4] rfl rfl
    refine MC.does true (does_store (vs := [int k, int m, int e, str t, .slice qx l.length cx, .slice qk ks.length ck]) hs rfl rfl rfl rfl (all1 rfl) (by simp)) rfl ?_; intro _ w hs; rw [splice_all (by rfl)] at hs
    refine zz ?_
    have h2 := hs.pickF 5 [3, 4, 1] rfl rfl
    have h3 := (suf_left (sl (.slice qx l.length cx) 32 6 l.length rows'.flatten :: sl (.slice qk ks.length ck) 9 1 ks.length (strsV ks) :: H) F).out w (hs.pickF 5 [3, 4] rfl rfl)
    have hk2 := RdS.of_sl h3.tail
    exact MC.retC rfl hs rfl (vs := [int k, int m, int e, str t, .slice qx l.length cx, .slice qk ks.length ck]) (by rfl) (by rfl) (by rfl) ⟨_, sl (.slice qx l.length cx) 32 6 l.length rows'.flatten :: sl (.slice qk ks.length ck) 9 1 ks.length (strsV ks) :: H, rfl, VR.mk (rows := rows') (RdS.of_sl h3) (@VL.six H _ _ hVL) hVL.len (fun i v r hv hr => VR.up (hVL.row i v r hv hr)) hk2.up hfit, hs.pickF 5 [1, 3, 4] rfl rfl⟩
end Go.Proofs.YtkccjgllanpebaaGreatDoor

namespace Go.Proofs.YtkccjgllanpebaaGreatDoor
open Go Go.Sl Go.Tr
attribute [local irreducible] LooksAt
section
variable {F : List Assn} {G : List Value → List Assn} {z : Pw} {s : St} {mk : Option (Nat × St)} {w : World} {tp : Nat} {r h c : Value}
def OutN (m : M Nd) (z : Pw) (s : St) (mk : Option (Nat × St)) (F : List Assn) : Value → World → Prop := Out m s
  (fun n s' v w => n.right ∧ ∃ y pool, NdIn pool y n ∧ Few n ∧ v = .tuple #[y.val n, int 0] ∧ Sat (ndP pool y n (pgr z s' mk :: F)) w)
  (fun e s' v w => ∃ lf q1 n1 c1 q2 n2 c2 q3 n3 c3, v = .tuple #[.agg [bool lf, .slice q1 n1 c1, .slice q2 n2 c2, .slice q3 n3 c3].toArray, int e] ∧ Sat (pgr z s' mk :: F) w)
theorem tread_spec {page : Nat} (hs : Sat (pgr z s mk :: F) w) [hA : At F tp [ptr z.p, r, h, c] 63 G] (hp : page ≤ 100000) :
    Ret Tryz.prog 101 [ptr tp, int ((page : Nat) : Int)] w (OutN (nodeM z.E page) z s mk F) := by
  refine Ret.enter [(true, ptr tp), (true, int ((page : Nat) : Int))] _ Tryz.func101 rfl Tryz.ntmps101 rfl ?_
  refine zz ?_
  refine MC.does true (does_alloc hs) rfl ?_; rintro _ w ⟨b4, rfl, hs⟩
  refine zz ?_
  have hg := pget_spec hs.swap hp
  refine zc rfl (hg) ?_
  rintro _ w (⟨b, s', hm, vb, rfl, hbl, hs⟩ | ⟨e, s', he, hm, vb, rfl, hs⟩)
  · obtain ⟨_, q, cb, rfl, _⟩ := hs.sl_len
    have hs := hs.pickF 3 [0, 2, 1] rfl rfl
    have hrd := nread_spec hs (RdS.of_sl hs)
    refine zz ?_
    refine zc rfl (hrd) ?_
    intro v w hv
    cases hn : readN b with
    | none =>
      rw [hn] at hv
      obtain ⟨rfl, hs⟩ := hv
      refine zz ?_
      refine MC.does true (does_store (vs := [bool false, .slice none 0 0, .slice none 0 0, .slice none 0 0]) hs rfl rfl rfl rfl (all1 rfl) (by simp)) rfl ?_; intro _ w hs; rw [splice_all (by rfl)] at hs
      refine zz ?_
      refine MC.retR (vs := [.agg [bool false, .slice none 0 0, .slice none 0 0, .slice none 0 0].toArray, int 200]) ⟨⟨⟨b4, 0, none⟩, rfl, load_cellA hs rfl⟩, rfl, trivial⟩ ?_
      exact .inr ⟨200, s', by decide, .inr ⟨b, s', hm, by dsimp only []; rw [hn]; exact ⟨rfl, rfl⟩⟩, _, _, _, _, _, _, _, _, _, _, rfl, hs.pickF 3 [2] rfl rfl⟩
    | some n =>
      rw [hn] at hv
      obtain ⟨y, pool, hin, hfew, rfl, hs⟩ := hv
      obtain ⟨sk, sv, si, rk, rv⟩ := y
      obtain ⟨_, qk, ck, rfl, _⟩ := (hs.pickF 4 [1, 0, 2, 3] rfl rfl).sl_len
      obtain ⟨_, qv, cv, rfl, _⟩ := (hs.pickF 4 [2, 0, 1, 3] rfl rfl).sl_len
      obtain ⟨_, qi, ci, rfl, _⟩ := (hs.pickF 4 [3, 0, 1, 2] rfl rfl).sl_len
      refine zz ?_
      refine MC.does true (does_store (vs := [bool n.leaf, .slice qk n.keys.length ck, .slice qv n.vals.length cv, .slice qi n.kids.length ci]) hs rfl rfl rfl rfl (all1 rfl) (by simp)) rfl ?_; intro _ w hs; rw [splice_all (by rfl)] at hs
      refine zz ?_
      refine MC.retR (vs := [.agg [bool n.leaf, .slice qk n.keys.length ck, .slice qv n.vals.length cv, .slice qi n.kids.length ci].toArray, int 0]) ⟨⟨⟨b4, 0, none⟩, rfl, load_cellA hs rfl⟩, rfl, trivial⟩ ?_
      refine .inl ⟨n, s', .inr ⟨b, s', hm, by dsimp only []; rw [hn]; exact ⟨rfl, rfl⟩⟩, (readN_some hn).1, ⟨.slice qk n.keys.length ck, .slice qv n.vals.length cv, .slice qi n.kids.length ci, rk, rv⟩, pool, hin, hfew, rfl, ?_⟩
      exact hs.pickF 7 [0, 1, 2, 3, 6] rfl rfl
  · refine zz ?_
    refine MC.pure (f := true) (po_build (ls := []) (out := [bool false, .slice none 0 0, .slice none 0 0, .slice none 0 0]) rfl rfl trivial rfl) rfl ?_
    refine zz ?_
    refine MC.does true (does_store (vs := [bool false, .slice none 0 0, .slice none 0 0, .slice none 0 0]) hs rfl rfl rfl rfl (all1 rfl) (by simp)) rfl ?_; intro _ w hs; rw [splice_all (by rfl)] at hs
    refine zz ?_
    refine MC.retR (vs := [.agg [bool false, .slice none 0 0, .slice none 0 0, .slice none 0 0].toArray, int e]) ⟨⟨⟨b4, 0, none⟩, rfl, load_cellA hs rfl⟩, rfl, trivial⟩ ?_
    exact .inr ⟨e, s', he, .inl ⟨e, hm, rfl⟩, _, _, _, _, _, _, _, _, _, _, rfl, hs.pickF 2 [0] rfl rfl⟩
theorem level_of {E : En} {p : Nat} {low : Bool} {s' : St} {n : Nd} (h : nodeM E p s (.ok n) s') : levelM E p low s (if n.leaf = low then .ok n else .err 200) s' := by
  rcases h with ⟨e, _, h⟩ | ⟨b, s1, h1, h2⟩
  · cases h
  · refine .inr ⟨b, s1, h1, ?_⟩
    dsimp only [] at h2 ⊢
    cases hn : readN b with
    | none => rw [hn] at h2; cases h2.1
    | some m =>
      rw [hn] at h2
      obtain ⟨h3, rfl⟩ := h2
      cases h3
      dsimp only []
      by_cases hl : n.leaf = low
      · rw [if_pos hl, if_pos hl]; exact ⟨rfl, rfl⟩
      · rw [if_neg hl, if_neg hl]; exact ⟨rfl, rfl⟩
theorem level_err {E : En} {p : Nat} {low : Bool} {s' : St} {e : Int} (h : nodeM E p s (.err e) s') : levelM E p low s (.err e) s' := by
  rcases h with ⟨e', h1, h⟩ | ⟨b, s1, h1, h2⟩
  · exact .inl ⟨e', h1, h⟩
  · refine .inr ⟨b, s1, h1, ?_⟩
    dsimp only [] at h2 ⊢
    cases hn : readN b with
    | none => rw [hn] at h2; exact h2
    | some m => rw [hn] at h2; cases h2.1
theorem tlevel_spec {page : Nat} {hh : Nat} (hs : Sat (pgr z s mk :: F) w) [hA : At F tp [ptr z.p, r, h, c] 63 G] (hp : page ≤ 100000) :
    Ret Tryz.prog 57 [ptr tp, int ((page : Nat) : Int), int ((hh : Nat) : Int)] w (OutN (levelM z.E page (hh == 1)) z s mk F) := by
  refine Ret.enter [(true, ptr tp), (true, int ((page : Nat) : Int)), (true, int ((hh : Nat) : Int))] _ Tryz.func57 rfl Tryz.ntmps57 rfl ?_
  refine zz ?_
  refine MC.does true (does_alloc hs) rfl ?_; rintro _ w ⟨b6, rfl, hs⟩
  refine zz ?_
  have hg := tread_spec (tp := tp) hs.swap hp
  refine zc rfl (hg) ?_
  rintro _ w (⟨n, s', hm, hri, y, pool, hin, hfew, rfl, hs⟩ | ⟨e, s', he, hm, lf, q1, n1, c1, q2, n2, c2, q3, n3, c3, rfl, hs⟩)
  · obtain ⟨sk, sv, si, rk, rv⟩ := y
    obtain ⟨_, qk, ck, rfl, _⟩ := (hs.pickF 4 [1, 0, 2, 3] rfl rfl).sl_len
    obtain ⟨_, qv, cv, rfl, _⟩ := (hs.pickF 4 [2, 0, 1, 3] rfl rfl).sl_len
    obtain ⟨_, qi, ci, rfl, _⟩ := (hs.pickF 4 [3, 0, 1, 2] rfl rfl).sl_len
    refine zz ?_
    refine MC.does true (does_alloc hs) rfl ?_; rintro _ w ⟨b8, rfl, hs⟩
    refine zz ?_
    refine MC.does true (does_store (vs := [bool n.leaf, .slice qk n.keys.length ck, .slice qv n.vals.length cv, .slice qi n.kids.length ci]) hs rfl rfl rfl rfl (all1 rfl) (by simp)) rfl ?_; intro _ w hs; rw [splice_all (by rfl)] at hs
    refine zz ?_
    refine MC.pure (f := true) (po_bin rfl rfl br_bool_ne) rfl ?_
    have hl := level_of (low := hh == 1) hm
    have h1 : (decide (((hh : Nat) : Int) = 1)) = (hh == 1) := by
      rw [show (hh == 1) = decide (hh = 1) from rfl, decide_eq_decide]; omega
    rw [h1]
    by_cases hle : n.leaf = (hh == 1)
    · rw [if_pos hle] at hl
      rw [decide_eq_false (fun h => h hle)]
      refine zz ?_
      refine MC.la true (la_loadV (vs := [bool n.leaf, .slice qk n.keys.length ck, .slice qv n.vals.length cv, .slice qi n.kids.length ci]) hs rfl rfl rfl rfl) rfl ?_
      refine zz ?_
      refine MC.does true (does_store (vs := [bool n.leaf, .slice qk n.keys.length ck, .slice qv n.vals.length cv, .slice qi n.kids.length ci]) hs rfl rfl rfl rfl (all1 rfl) (by simp)) rfl ?_; intro _ w hs; rw [splice_all (by rfl)] at hs
      refine zz ?_
      refine MC.retR (vs := [.agg [bool n.leaf, .slice qk n.keys.length ck, .slice qv n.vals.length cv, .slice qi n.kids.length ci].toArray, int 0]) ⟨⟨⟨b6, 0, none⟩, rfl, load_cellA hs rfl⟩, rfl, trivial⟩ ?_
      exact .inl ⟨n, s', hl, hri, ⟨.slice qk n.keys.length ck, .slice qv n.vals.length cv, .slice qi n.kids.length ci, rk, rv⟩, pool, hin, hfew, rfl, hs.pickF 7 [1, 2, 3, 4, 5] rfl rfl⟩
    · rw [if_neg hle] at hl
      rw [decide_eq_true hle]
      refine zz ?_
      refine MC.la true (la_loadV (vs := [bool n.leaf, .slice qk n.keys.length ck, .slice qv n.vals.length cv, .slice qi n.kids.length ci]) hs rfl rfl rfl rfl) rfl ?_
      refine zz ?_
      refine MC.does true (does_store (vs := [bool n.leaf, .slice qk n.keys.length ck, .slice qv n.vals.length cv, .slice qi n.kids.length ci]) hs rfl rfl rfl rfl (all1 rfl) (by simp)) rfl ?_; intro _ w hs; rw [splice_all (by rfl)] at hs
      refine zz ?_
      refine MC.retR (vs := [.agg [bool n.leaf, .slice qk n.keys.length ck, .slice qv n.vals.length cv, .slice qi n.kids.length ci].toArray, int 200]) ⟨⟨⟨b6, 0, none⟩, rfl, load_cellA hs rfl⟩, rfl, trivial⟩ ?_
      exact .inr ⟨200, s', by decide, hl, _, _, _, _, _, _, _, _, _, _, rfl, hs.pickF 7 [5] rfl rfl⟩
  · refine zz ?_
    refine MC.does true (does_alloc hs) rfl ?_; rintro _ w ⟨b8, rfl, hs⟩
    refine zz ?_
    refine MC.does true (does_store (vs := [bool lf, .slice q1 n1 c1, .slice q2 n2 c2, .slice q3 n3 c3]) hs rfl rfl rfl rfl (all1 rfl) (by simp)) rfl ?_; intro _ w hs; rw [splice_all (by rfl)] at hs
    refine zz ?_
    refine MC.la true (la_loadV (vs := [bool lf, .slice q1 n1 c1, .slice q2 n2 c2, .slice q3 n3 c3]) hs rfl rfl rfl rfl) rfl ?_
    refine zz ?_
    refine MC.does true (does_store (vs := [bool lf, .slice q1 n1 c1, .slice q2 n2 c2, .slice q3 n3 c3]) hs rfl rfl rfl rfl (all1 rfl) (by simp)) rfl ?_; intro _ w hs; rw [splice_all (by rfl)] at hs
    refine zz ?_
    refine MC.retR (vs := [.agg [bool lf, .slice q1 n1 c1, .slice q2 n2 c2, .slice q3 n3 c3].toArray, int e]) ⟨⟨⟨b6, 0, none⟩, rfl, load_cellA hs rfl⟩, rfl, trivial⟩ ?_
    exact .inr ⟨e, s', he, level_err hm, _, _, _, _, _, _, _, _, _, _, rfl, hs.pickF 3 [1] rfl rfl⟩
theorem far_spec {vc : Value} {cell : Bs} (hs : Sat F w) (hc : RdS F 1 vc cell.length (bytesV cell)) (hcl : cell.length ≤ 1000) :
    Ret Tryz.prog 102 [vc] w fun v w' => v = (match farB cell with
      | some (hd, n) => .tuple #[int ((hd : Nat) : Int), int ((n : Nat) : Int), bool true]
      | none => .tuple #[int 0, int 0, bool false]) ∧ Sat F w' := by
  obtain ⟨p, cc, rfl, hcc, _⟩ := hc.shape
  refine Ret.enter [(true, .slice p cell.length cc)] _ Tryz.func102 rfl Tryz.ntmps102 rfl ?_
  refine zz ?_
  by_cases h7 : cell.length = 7
  · obtain ⟨a, b, c, d, e, f, g, rfl⟩ : ∃ a b c d e f g, cell = [a, b, c, d, e, f, g] := by
      match cell, h7 with
      | [a, b, c, d, e, f, g], _ => exact ⟨a, b, c, d, e, f, g, rfl⟩
    obtain ⟨lb, lo, rfl, hrd⟩ := hc.at_ (by simp)
    have hb := b.toNat_lt
    have hc' := c.toNat_lt
    have hd := d.toNat_lt
    have he := e.toNat_lt
    have hf := f.toNat_lt
    have hg := g.toNat_lt
    refine zz ?_
    refine MC.la true (la_load1_rd hrd hs (j := Int.toNat 0 * 1) rfl (by rfl)) rfl ?_
    by_cases ha : a = 1
    · subst ha
      refine zz ?_
      refine MC.draw hs [0, 1, 2, 3, 4, 5, 6, 7, 8, 9, 10, 11, 12, 13, 14, 15, 16, 17, 18, 19, 20, 21, 22, 23, 24, 25, 26, 27, 28, 29, 30, 31, 32, 33, 34] (by rfl) ?_; intro w hs
      refine zd ?_
      refine MC.laD true (la_load1_rd hrd hs (j := Int.toNat 1 * 1) rfl (by rfl)) rfl ?_
      refine zd ?_
      refine MC.laD true (la_load1_rd hrd hs (j := Int.toNat 2 * 1) rfl (by rfl)) rfl ?_
      refine zd ?_
      refine MC.pure (f := true) (po_bin rfl rfl (br_orS' 8 b.toNat (by omega) (by show ((c.toNat : Nat) : Int) < 256; omega) (by show ((b.toNat : Nat) : Int) * 256 = _; rfl) (by simp [IntKind.max, IntKind.signed, IntKind.bits]; omega))) rfl ?_
      refine zd ?_
      refine MC.laD true (la_load1_rd hrd hs (j := Int.toNat 3 * 1) rfl (by rfl)) rfl ?_
      refine zd ?_
      refine MC.laD true (la_load1_rd hrd hs (j := Int.toNat 4 * 1) rfl (by rfl)) rfl ?_
      refine zd ?_
      refine MC.pure (f := true) (po_bin rfl rfl (br_orS' 24 d.toNat (by omega) (by show ((e.toNat : Nat) : Int) * 65536 < 16777216; omega) (by show ((d.toNat : Nat) : Int) * 16777216 = _; rfl) (by simp [IntKind.max, IntKind.signed, IntKind.bits]; omega))) rfl ?_
      refine zd ?_
      refine MC.laD true (la_load1_rd hrd hs (j := Int.toNat 5 * 1) rfl (by rfl)) rfl ?_
      refine zd ?_
      refine MC.pure (f := true) (po_bin rfl rfl (br_orS' 16 (d.toNat * 256 + e.toNat) (by omega) (by show ((f.toNat : Nat) : Int) * 256 < 65536; omega) (by show ((d.toNat : Nat) : Int) * 16777216 + ((e.toNat : Nat) : Int) * 65536 = ((d.toNat * 256 + e.toNat : Nat) : Int) * 65536; omega) (by simp [IntKind.max, IntKind.signed, IntKind.bits]; omega))) rfl ?_
      refine zd ?_
      refine MC.laD true (la_load1_rd hrd hs (j := Int.toNat 6 * 1) rfl (by rfl)) rfl ?_
      refine zd ?_
      refine MC.pure (f := true) (po_bin rfl rfl (br_orS' 8 ((d.toNat * 256 + e.toNat) * 256 + f.toNat) (by omega) (by show ((g.toNat : Nat) : Int) < 256; omega) (by show ((d.toNat : Nat) : Int) * 16777216 + ((e.toNat : Nat) : Int) * 65536 + ((f.toNat : Nat) : Int) * 256 = (((d.toNat * 256 + e.toNat) * 256 + f.toNat : Nat) : Int) * 256; omega) (by simp [IntKind.max, IntKind.signed, IntKind.bits]; omega))) rfl ?_
      refine zd ?_
      refine zz ?_
      refine MC.ret rfl ?_
      have hf2 : farB [1, b, c, d, e, f, g] = some (b.toNat * 256 + c.toNat, ((d.toNat * 256 + e.toNat) * 256 + f.toNat) * 256 + g.toNat) := rfl
      rw [hf2]
      dsimp only []
      have e1 : ((b.toNat : Nat) : Int) * 256 + ((c.toNat : Nat) : Int) = ((b.toNat * 256 + c.toNat : Nat) : Int) := by omega
      have e2 : ((d.toNat : Nat) : Int) * 16777216 + ((e.toNat : Nat) : Int) * 65536 + ((f.toNat : Nat) : Int) * 256 + ((g.toNat : Nat) : Int) = ((((d.toNat * 256 + e.toNat) * 256 + f.toNat) * 256 + g.toNat : Nat) : Int) := by omega
      rw [← e1, ← e2]
      exact ⟨rfl, hs⟩
    · have ha' : ¬ ((a.toNat : Nat) : Int) = 1 := fun h => ha (UInt8.toNat_inj.1 (by have : (1 : UInt8).toNat = 1 := rfl; omega))
      refine zz ?_
      refine MC.ret rfl ?_
      have : farB [a, b, c, d, e, f, g] = none := if_neg ha
      rw [this]
      exact ⟨rfl, hs⟩
  · refine zz ?_
    refine MC.ret rfl ?_
    have : farB cell = none := by
      unfold farB
      split
      · simp at h7
      · rfl
    rw [this]
    exact ⟨rfl, hs⟩
theorem farB_bd {cell : Bs} {hd n : Nat} (h : farB cell = some (hd, n)) : hd < 65536 ∧ n < 4294967296 := by
  unfold farB at h
  split at h
  · split at h
    · rename_i a b c d e f g _
      have hb := b.toNat_lt
      have hc' := c.toNat_lt
      have hd := d.toNat_lt
      have he := e.toNat_lt
      have hf := f.toNat_lt
      have hg := g.toNat_lt
      cases h
      omega
    · cases h
  · cases h
theorem tlose_spec {vc : Value} {cell : Bs} (hs : Sat (pgr z s mk :: F) w) [hA : At F tp [ptr z.p, r, h, c] 63 G] (hc : RdS F 1 vc cell.length (bytesV cell)) (hcl : cell.length ≤ 1000) :
    Ret Tryz.prog 59 [ptr tp, vc] w (OutU (loseM z.E cell) z s mk F) := by
  have hfar := fun w (hs : Sat (pgr z s mk :: F) w) => far_spec hs hc.up hcl
  obtain ⟨p, cc, rfl, hcc, _⟩ := hc.shape
  refine Ret.enter [(true, ptr tp), (true, .slice p cell.length cc)] _ Tryz.func59 rfl Tryz.ntmps59 rfl ?_
  refine zz ?_
  refine MC.cutAtS 2 (σ := Unit) (fun _ => [(0, true, ptr tp), (1, true, .slice p cell.length cc)]) (fun w => fun w => ¬ cell.getD 0 1 = 0 ∧ Sat (pgr z s mk :: F) w) rfl ?_ ?_
  rotate_left
  · cases cell with
    | nil =>
      refine zz ?_
      exact MC.meetS () zi ⟨by decide, hs⟩
    | cons a l =>
      obtain ⟨lb, lo, rfl, hrd⟩ := hc.at_ (by simp)
      have hl0 : 0 < (a :: l).length := by simp
      refine zz ?_
      refine MC.la true (la_load1_rd hrd hs (j := Int.toNat 0 * 1) rfl (by rfl)) rfl ?_
      by_cases ha : a = 0
      · subst ha
        refine zz ?_
        refine MC.ret rfl ?_
        exact .inl ⟨(), s, ⟨rfl, rfl⟩, rfl, hs⟩
      · have ha' : ¬ ((a.toNat : Nat) : Int) = 0 := fun h => ha (UInt8.toNat_inj.1 (by have : (0 : UInt8).toNat = 0 := rfl; omega))
        refine zz ?_
        exact MC.meetS () zi ⟨ha, hs⟩
  · rintro _ w ⟨h0, hs⟩
    dsimp only [List.drop]
    refine zz ?_
    have hcall := hfar w hs
    refine zc rfl (hcall) ?_
    rintro v w ⟨rfl, hs⟩
    cases hf : farB cell with
    | none =>
      dsimp only []
      refine zz ?_
      refine MC.ret rfl ?_
      refine .inr ⟨200, s, by decide, ?_, rfl, hs⟩
      unfold loseM
      rw [if_neg h0, hf]
      exact ⟨rfl, rfl⟩
    | some x =>
      obtain ⟨hd, n⟩ := x
      dsimp only []
      obtain ⟨hb1, hb2⟩ := farB_bd hf
      refine zz ?_
      have hcall := cdrop_spec (head := hd) (size := n) hs (by omega) (by omega)
      refine zc rfl (hcall) ?_
      have hv : loseM z.E cell = chainDrop z.E hd n := by
        unfold loseM
        rw [if_neg h0, hf]
      rintro _ w (⟨b, s', hm, rfl, hs⟩ | ⟨e, s', he, hm, rfl, hs⟩)
      · refine zz ?_
        refine MC.ret rfl ?_
        exact .inl ⟨b, s', by rw [hv]; exact hm, rfl, hs⟩
      · refine zz ?_
        refine MC.ret rfl ?_
        exact .inr ⟨e, s', he, by rw [hv]; exact hm, rfl, hs⟩
end
end Go.Proofs.YtkccjgllanpebaaGreatDoor
