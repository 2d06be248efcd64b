/-
  Nodes: Split
-/
import Derived.Test.YtjlofdodiaklaaaGreatYay
import Derived.Test.YtjlofdodiaklaaaGreatYaf
set_option maxHeartbeats 1000000
set_option linter.unusedVariables false
set_option linter.unusedSimpArgs false
namespace Go.Proofs.YtjlofdodiaklaaaGreat
open Go Go.Sl Go.Tr
attribute [local irreducible] LooksAt

abbrev ndC (n : Nd) (pk pv pi : Option Addr) (ck cv ci : Nat) : List Value := [bool n.leaf, .slice pk n.keys.length ck, .slice pv n.vals.length cv, .slice pi n.kids.length ci]
theorem weight_spec {F : List Assn} {n : Nd} {pk pv pi : Option Addr} {ck cv ci : Nat} {rk rv : List Value} {b1 i : Nat} {w : World} (hs : Sat (blk b1 (ndC n pk pv pi ck cv ci) 97 :: F) w) (hr : NdR F ⟨.slice pk n.keys.length ck, .slice pv n.vals.length cv, .slice pi n.kids.length ci, rk, rv⟩ n) (hi : i < n.keys.length) :
    Ret Tryz.prog 109 [int ((i : Nat) : Int), ptr b1] w fun v w' => v = int ((n.weight i : Nat) : Int) ∧ Sat (blk b1 (ndC n pk pv pi ck cv ci) 97 :: F) w' := by
  have hcl := cell_le hr.ks hr.vs i
  have hcall := ncell_spec hs hr.up hi
  refine Ret.enter [(true, int ((i : Nat) : Int)), (true, ptr b1)] _ Tryz.func109 rfl Tryz.ntmps109 rfl ?_
  refine zz ?_
  refine MC.condB rfl (fun hb => ?_) (fun hb => ?_)
  · refine zz ?_
    refine MC.la true (la_loadV (vs := ndC n pk pv pi ck cv ci) hs rfl rfl rfl rfl) rfl ?_
    refine zz ?_
    refine MC.does true (does_call rfl (hcall)) rfl ?_
    rintro _ w ⟨rfl, hs⟩
    refine zz ?_
    refine MC.ret rfl ?_
    unfold Nd.weight
    rw [if_pos hb]
    exact ⟨rfl, hs⟩
  · refine zz ?_
    refine MC.la true (la_loadV (vs := ndC n pk pv pi ck cv ci) hs rfl rfl rfl rfl) rfl ?_
    refine zz ?_
    refine MC.does true (does_call rfl (hcall)) rfl ?_
    rintro _ w ⟨rfl, hs⟩
    refine zz ?_
    refine MC.ret rfl ?_
    unfold Nd.weight
    rw [if_neg (by rw [hb]; decide)]
    exact ⟨rfl, hs⟩
theorem iclone2_spec {F : List Assn} {v : Value} {n : Nat} {l : List Nat} {w : World} (hs : Sat F w) (hl : RdS F 1 v n (bufV l)) (hn : l.length ≤ 1000) :
    Ret Tryz.prog 57 [v] w fun u w' => Sat (sl u 3 1 l.length (bufV l) :: F) w' := by
  obtain ⟨q, c, rfl, hc, hlen⟩ := hl.shape
  obtain rfl : n = l.length := by rw [bufV_length] at hlen; omega
  cases q with
  | none =>
    have h0 : l.length = 0 := by
      rcases Nat.eq_zero_or_pos l.length with h | h
      · exact h
      · obtain ⟨b, o, h', _⟩ := hl.at_ (by omega); cases h'
    have hl0 : l = [] := List.eq_nil_of_length_eq_zero h0
    subst hl0
    refine Ret.enter [(true, .slice none 0 c)] _ Tryz.func57 rfl Tryz.ntmps57 rfl ?_
    refine zz ?_
    refine MC.pure (f := true) (po_bin rfl rfl br_slice_nil) rfl ?_
    refine zz ?_
    refine MC.ret rfl ?_
    exact hs.sl_nil _ _
  | some a =>
    refine Ret.enter [(true, .slice (some a) l.length c)] _ Tryz.func57 rfl Tryz.ntmps57 rfl ?_
    refine zz ?_
    refine MC.pure (f := true) (po_bin rfl rfl br_slice_nil) rfl ?_
    refine zz ?_
    refine MC.does true (does_buildSlice0 hs) rfl ?_
    rintro _ w ⟨b1, rfl, hs⟩
    have hs := Sat.sl_mk (xs := []) (spare := []) (n := 0) (c := 0) (size := 1) hs (Nat.le_refl _) rfl rfl
    refine zz ?_
    refine MC.does true (does_append hs rfl rfl (RdS.src hl (bufV_one _)) (by omega) (by omega)) rfl ?_
    intro vn w hs
    rw [Nat.zero_add, List.nil_append] at hs
    refine zz ?_
    refine MC.ret rfl ?_
    exact hs
theorem Rows.take {F : List Assn} {p : Option Addr} {c : Nat} {rs : List Value} {ks : List Bs} (h : Rows F (.slice p ks.length c) rs ks) {b m : Nat} (hb : b ≤ ks.length) (hm : b ≤ m) : Rows F (.slice p b m) (rs.take b) (ks.take b) := by
  have e : (ks.take b).length = b := by rw [List.length_take]; omega
  have h1 := (h.sl.takeL hb).cap hm
  rw [Nat.mul_one] at h1
  refine ⟨by rw [e]; exact h1, fun i hi => ?_⟩
  rw [e] at hi
  obtain ⟨u, g1, g2⟩ := h.at_ i (by omega)
  exact ⟨u, by rw [List.getElem?_take, if_pos hi]; exact g1, by rw [List.getElem_take]; exact g2⟩
theorem Rows.drop {F : List Assn} {p : Option Addr} {c : Nat} {rs : List Value} {ks : List Bs} (h : Rows F (.slice p ks.length c) rs ks) {a : Nat} (ha : a ≤ ks.length) : Rows F (.slice (Sl.cutAt p a c 1) (ks.length - a) (c - a)) (rs.drop a) (ks.drop a) := by
  have e : (ks.drop a).length = ks.length - a := by rw [List.length_drop]
  have h1 := h.sl.dropL ha
  rw [Nat.mul_one] at h1
  refine ⟨by rw [e]; exact h1, fun i hi => ?_⟩
  rw [e] at hi
  obtain ⟨u, g1, g2⟩ := h.at_ (a + i) (by omega)
  exact ⟨u, by rw [List.getElem?_drop]; exact g1, by rw [List.getElem_drop]; exact g2⟩
abbrev zeroN : List Value := [bool false, .slice none 0 0, .slice none 0 0, .slice none 0 0]
def SplitOut (F : List Assn) (n : Nd) (v : Value) (w : World) : Prop := match n.split with
  | none => v = .tuple #[.agg zeroN.toArray, .agg zeroN.toArray, .slice none 0 0, int 200] ∧ Sat F w
  | some (l, r, key) => ∃ yl yr vk pool, NdIn pool yl l ∧ NdIn pool yr r ∧ v = .tuple #[yl.val l, yr.val r, vk, int 0] ∧
      Sat (sl vk 5 1 key.length (bytesV key) :: bods 5 pool :: sl yl.sk 44 1 l.keys.length yl.rk :: sl yl.sv 44 1 l.vals.length yl.rv :: sl yl.si 3 1 l.kids.length (bufV l.kids) :: sl yr.sk 44 1 r.keys.length yr.rk :: sl yr.sv 44 1 r.vals.length yr.rv :: sl yr.si 3 1 r.kids.length (bufV r.kids) :: F) w
theorem split_none {F : List Assn} {n : Nd} (h : ¬ n.sound ∨ n.keys.length < (if n.leaf = true then 2 else 3)) {w : World} (hs : Sat F w) : SplitOut F n (.tuple #[.agg zeroN.toArray, .agg zeroN.toArray, .slice none 0 0, int 200]) w := by
  unfold SplitOut Nd.split
  rw [if_pos h]
  exact ⟨rfl, hs⟩
set_option maxHeartbeats 4000000 in
theorem split_spec {F : List Assn} {y : NdV} {n : Nd} {w : World} (hs : Sat F w) (hr : NdR F y n) (hkd : ∀ k ∈ n.kids, k ≤ 100000) :
    Ret Tryz.prog 95 [y.val n] w (SplitOut F n) := by
  have hr0 := hr
  have hcl := cell_le hr.ks hr.vs
  obtain ⟨sk, sv, si, rk, rv⟩ := y
  obtain ⟨hk, hv, hc, ⟨f1, f2, f3⟩, hks, hvs⟩ := hr
  dsimp only [] at hk hv hc f1 f2 f3 hks hvs
  obtain ⟨pk, ck, rfl, hck, _⟩ := hk.shape
  obtain ⟨pv, cv, rfl, hcv, _⟩ := hv.shape
  obtain ⟨pi, ci, rfl, hci, _⟩ := hc.shape
  refine Ret.enter [(true, .agg (ndC n pk pv pi ck cv ci).toArray)] _ Tryz.func95 rfl Tryz.ntmps95 rfl ?_
  refine zz ?_
  refine MC.does true (does_box hs rfl rfl) rfl ?_; rintro _ w ⟨b1, rfl, hs⟩
  refine zz ?_
  refine MC.does true (does_alloc hs) rfl ?_; rintro _ w ⟨b2, rfl, hs⟩
  refine zz ?_
  refine MC.does true (does_alloc hs) rfl ?_; rintro _ w ⟨b3, rfl, hs⟩
  have hs : Sat (blk b3 zeroN 97 :: blk b2 zeroN 97 :: blk b1 (ndC n pk pv pi ck cv ci) 97 :: F) w := hs
  have hs := hs.pickF 3 [2, 1, 0] rfl rfl
  refine zz ?_
  refine MC.cutAtS 2 (σ := Unit) (fun _ => [(1, true, ptr b1), (2, true, ptr b2), (3, true, ptr b3), (6, true, int ((n.keys.length : Nat) : Int)), (7, true, int (((if n.leaf = true then 2 else 3 : Nat)) : Int))]) (fun _ w => Sat (blk b1 (ndC n pk pv pi ck cv ci) 97 :: blk b2 zeroN 97 :: blk b3 zeroN 97 :: F) w) rfl ?_ ?_
  rotate_left
  · refine MC.condB rfl (fun hb => ?_) (fun hb => ?_)
    · refine zz ?_
      exact MC.meetS () ⟨rfl, rfl, rfl, rfl, int_eq (by rw [if_pos hb]; rfl), trivial⟩ hs
    · refine zz ?_
      exact MC.meetS () ⟨rfl, rfl, rfl, rfl, int_eq (by rw [if_neg (by rw [hb]; decide)]; rfl), trivial⟩ hs
  · rintro _ w hs
    dsimp only [List.drop]
    have hleast : (if n.leaf = true then 2 else 3) ≤ 3 ∧ 2 ≤ (if n.leaf = true then 2 else 3) := by split <;> omega
    have hnone := fun (h : ¬ n.sound ∨ n.keys.length < (if n.leaf = true then 2 else 3)) (w : World) => split_none (F := F) h (w := w)
    have hsome : n.sound → ¬ n.keys.length < (if n.leaf = true then 2 else 3) → n.split = if n.leaf then some (⟨true, n.keys.take n.cut, n.vals.take n.cut, []⟩, ⟨true, n.keys.drop n.cut, n.vals.drop n.cut, []⟩, n.keys.getD n.cut []) else some (⟨false, n.keys.take (max 2 n.cut - 1), [], n.kids.take (max 2 n.cut)⟩, ⟨false, n.keys.drop (max 2 n.cut), [], n.kids.drop (max 2 n.cut)⟩, n.keys.getD (max 2 n.cut - 1) []) := fun h1 h2 => by
      unfold Nd.split; rw [if_neg (by rintro (h | h); exact h h1; exact h2 h)]
    have hl3 : n.leaf = false → (if n.leaf = true then 2 else 3) = 3 := fun h => by rw [h]; rfl
    generalize (if n.leaf = true then 2 else 3) = least at *
    refine zz ?_
    refine MC.la true (la_loadV (vs := ndC n pk pv pi ck cv ci) hs rfl rfl rfl rfl) rfl ?_
    have hcall := sound_spec hs hr0.up hkd
    refine MC.does true (does_call rfl (hcall)) rfl ?_
    rintro _ w ⟨rfl, hs⟩
    by_cases hsd : n.sound
    · rw [decide_eq_true hsd]
      by_cases hkl : n.keys.length < least
      · refine zz ?_
        refine MC.pure (f := true) (po_build (ls := []) (out := zeroN) rfl rfl trivial rfl) rfl ?_
        refine MC.pure (f := true) (po_build (ls := []) (out := zeroN) rfl rfl trivial rfl) rfl ?_
        refine MC.does true (does_store (vs := zeroN) hs rfl rfl rfl rfl (all1 rfl) (by simp)) rfl ?_; intro _ w hs; rw [splice_all (by rfl)] at hs
        refine MC.does true (does_store (vs := zeroN) hs rfl rfl rfl rfl (all1 rfl) (by simp)) rfl ?_; intro _ w hs; rw [splice_all (by rfl)] at hs
        refine zz ?_
        exact MC.retR (vs := [.agg zeroN.toArray, .agg zeroN.toArray, .slice none 0 0, int 200]) ⟨⟨⟨b2, 0, none⟩, rfl, load_cellA hs rfl⟩, ⟨⟨b3, 0, none⟩, rfl, load_cellA hs rfl⟩, rfl, rfl, trivial⟩ (hnone (.inr hkl) _ (hs.pickF 3 [] rfl rfl))
      · have hsp := hsome hsd hkl
        clear hnone hsome
        refine zz ?_
        refine MC.pure (f := true) (po_makeFunc (vf := []) (vc := [ptr b1]) rfl rfl) rfl ?_
        refine zz ?_
        have hwl : ∀ i, n.weight i ≤ 2004 := fun i => by
          have := hcl i
          unfold Nd.weight; split <;> omega
        have hsl := sum_le hwl
        refine MC.loop (σ := Nat × Nat) (fun x => [(1, true, ptr b1), (2, true, ptr b2), (3, true, ptr b3), (6, true, int ((n.keys.length : Nat) : Int)), (8, true, .func (.func 109) #[] #[ptr b1]), (9, true, int ((x.2 : Nat) : Int)), (29, true, int ((n.keys.length : Nat) : Int)), (30, true, int ((x.1 : Nat) : Int))])
          (fun x w => x.1 ≤ n.keys.length ∧ x.2 = ((List.range x.1).map n.weight).sum ∧ Sat (blk b1 (ndC n pk pv pi ck cv ci) 97 :: blk b2 zeroN 97 :: blk b3 zeroN 97 :: F) w) (fun x => n.keys.length - x.1) (0, 0) (by repeat (first | exact trivial | refine ⟨rfl, ?_⟩)) ⟨Nat.zero_le _, rfl, hs⟩ ?_
        clear hs
        rintro ⟨i, sm⟩ w ⟨hi, hsm, hs⟩
        dsimp only [] at hi hsm hs ⊢
        rcases Nat.lt_or_ge i n.keys.length with hlt | hge
        · have hsi := hsl i
          have hwi := hwl i
          have hcall := weight_spec hs hr0.up hlt
          refine zz ?_
          refine MC.does true (does_callv (first := []) (capt := [ptr b1]) rfl rfl hcall) rfl ?_
          rintro _ w ⟨rfl, hs⟩
          refine zz ?_
          exact MC.again (i + 1, sm + n.weight i) (by repeat (first | exact trivial | refine ⟨rfl, ?_⟩)) ⟨hlt, by dsimp only []; rw [sum_step]; omega, hs⟩ (by show n.keys.length - (i + 1) < n.keys.length - i; omega)
        · obtain rfl : i = n.keys.length := by omega
          have hsk := hsl n.keys.length
          refine zz ?_
          refine MC.cutAtS 2 (σ := Unit) (fun _ => [(1, true, ptr b1), (2, true, ptr b2), (3, true, ptr b3), (11, true, int ((n.cut : Nat) : Int))]) (fun _ w => Sat (blk b1 (ndC n pk pv pi ck cv ci) 97 :: blk b2 zeroN 97 :: blk b3 zeroN 97 :: F) w) rfl ?_ ?_
          rotate_left
          · refine MC.loop (σ := Nat × Nat) (fun x => [(1, true, ptr b1), (2, true, ptr b2), (3, true, ptr b3), (6, true, int ((n.keys.length : Nat) : Int)), (8, true, .func (.func 109) #[] #[ptr b1]), (9, true, int ((sm : Nat) : Int)), (11, true, int ((x.1 : Nat) : Int)), (12, true, int ((x.2 : Nat) : Int))])
              (fun x w => x.1 ≤ n.keys.length - 1 ∧ x.2 ≤ 2004 * x.1 ∧ Go.Tr.cutAt n.weight n.keys.length sm (n.keys.length - x.1) x.1 x.2 = n.cut ∧ Sat (blk b1 (ndC n pk pv pi ck cv ci) 97 :: blk b2 zeroN 97 :: blk b3 zeroN 97 :: F) w) (fun x => n.keys.length - x.1) (0, 0) (by repeat (first | exact trivial | refine ⟨rfl, ?_⟩)) ⟨Nat.zero_le _, Nat.le_refl _, by rw [hsm]; rfl, hs⟩ ?_
            clear hs
            rintro ⟨i, pt⟩ w ⟨hi, hpt, hcut, hs⟩
            dsimp only [] at hi hpt hcut hs ⊢
            rw [show n.keys.length - i = (n.keys.length - (i + 1)) + 1 by omega] at hcut
            unfold Go.Tr.cutAt at hcut
            by_cases h1 : i < n.keys.length - 1
            · by_cases h2 : 2 * pt < sm
              · rw [if_pos ⟨h1, h2⟩] at hcut
                have hwi := hwl i
                have hcall := weight_spec hs hr0.up (show i < n.keys.length by omega)
                refine zz ?_
                refine MC.does true (does_callv (first := []) (capt := [ptr b1]) rfl rfl hcall) rfl ?_
                rintro _ w ⟨rfl, hs⟩
                refine zz ?_
                exact MC.again (i + 1, pt + n.weight i) (by repeat (first | exact trivial | refine ⟨rfl, ?_⟩)) ⟨by show i + 1 ≤ _; omega, by dsimp only []; omega, hcut, hs⟩ (by show n.keys.length - (i + 1) < n.keys.length - i; omega)
              · rw [if_neg (fun h => h2 h.2)] at hcut
                refine zz ?_
                exact MC.meetS () ⟨rfl, rfl, rfl, int_eq (by rw [hcut]), trivial⟩ hs
            · rw [if_neg (fun h => h1 h.1)] at hcut
              refine zz ?_
              exact MC.meetS () ⟨rfl, rfl, rfl, int_eq (by rw [hcut]), trivial⟩ hs
          · rintro _ w hs
            dsimp only [List.drop]
            have hbd := Go.Pa.cut_bd (n := n) (by omega)
            generalize n.cut = c at *
            have h3 := hsd.2.2
            refine zz ?_
            refine MC.condB rfl (fun hb => ?_) (fun hb => ?_)
            · rw [if_pos hb] at h3 hsp
              obtain ⟨hv1, hk0, _⟩ := h3
              have hck1 : c ≤ n.keys.length := by omega
              refine zz ?_
              refine MC.draw hs [0, 1, 2, 3, 4, 6, 7, 8, 9, 10, 5, 11, 12, 13] (by rfl) ?_; intro w hs
              refine zd ?_
              refine MC.pure (f := true) (po_slice3_hi (b := c) (m := c) rfl rfl rfl (Nat.le_refl _) (by omega)) rfl ?_
              refine zd ?_
              refine MC.pure (f := true) (po_slice3_hi (b := c) (m := c) rfl rfl rfl (Nat.le_refl _) (by omega)) rfl ?_
              have ho1 := own_spec hs (hk.take (b := c) (m := c) hck1 (Nat.le_refl _)).up (by rw [List.length_take]; omega) (fun k h => hks k (List.mem_of_mem_take h))
              refine MC.doesK true (does_call rfl (ho1)) rfl rfl rfl ?_
              rintro v1 w ⟨ro1, po1, hin1, hs⟩
              refine zh ?_
              have ho2 := own_spec hs (hv.take (b := c) (m := c) (by omega) (Nat.le_refl _)).up (by rw [List.length_take]; omega) (fun k h => hvs k (List.mem_of_mem_take h))
              refine MC.doesK true (does_call rfl (ho2)) rfl rfl rfl ?_
              rintro v2 w ⟨ro2, po2, hin2, hs⟩
              refine zh ?_
              obtain ⟨_, q1, c1, rfl, _⟩ := hs.tail.tail.tail.sl_len
              obtain ⟨_, q2, c2, rfl, _⟩ := hs.tail.sl_len
              refine zd ?_
              refine MC.pure (f := true) (po_build (ls := [(0, [bool true]), (1, [.slice q1 (n.keys.take c).length c1]), (2, [.slice q2 (n.vals.take c).length c2])]) (out := [bool true, .slice q1 (n.keys.take c).length c1, .slice q2 (n.vals.take c).length c2, .slice none 0 0]) rfl rfl ⟨⟨_, rfl, by simp⟩, ⟨_, rfl, by simp⟩, ⟨_, rfl, by simp⟩, trivial⟩ rfl) rfl ?_
              refine MC.doesK true (does_store (vs := [bool true, .slice q1 (n.keys.take c).length c1, .slice q2 (n.vals.take c).length c2, .slice none 0 0]) hs rfl rfl rfl rfl (all1 rfl) (by simp)) rfl rfl rfl ?_
              intro _ w hs
              rw [splice_all (by rfl)] at hs
              refine zh ?_
              refine zd ?_
              refine zz ?_
              refine MC.draw hs [0, 1, 2, 3, 5, 6, 7, 8, 4, 9, 10, 11] (by rfl) ?_; intro w hs
              refine zd ?_
              refine MC.pure (f := true) (po_slice_lo (a := c) rfl rfl hck1) rfl ?_
              refine zd ?_
              refine MC.pure (f := true) (po_slice_lo (a := c) rfl rfl (by omega)) rfl ?_
              have ho3 := own_spec hs (hk.drop (a := c) hck1).up (by rw [List.length_drop]; omega) (fun k h => hks k (List.mem_of_mem_drop h))
              refine MC.doesK true (does_call rfl (ho3)) rfl rfl rfl ?_
              rintro v3 w ⟨ro3, po3, hin3, hs⟩
              refine zh ?_
              have ho4 := own_spec hs (hv.drop (a := c) (by omega)).up (by rw [List.length_drop]; omega) (fun k h => hvs k (List.mem_of_mem_drop h))
              refine MC.doesK true (does_call rfl (ho4)) rfl rfl rfl ?_
              rintro v4 w ⟨ro4, po4, hin4, hs⟩
              refine zh ?_
              obtain ⟨_, q3, c3, rfl, _⟩ := hs.tail.tail.tail.sl_len
              obtain ⟨_, q4, c4, rfl, _⟩ := hs.tail.sl_len
              refine zd ?_
              refine MC.pure (f := true) (po_build (ls := [(0, [bool true]), (1, [.slice q3 (n.keys.drop c).length c3]), (2, [.slice q4 (n.vals.drop c).length c4])]) (out := [bool true, .slice q3 (n.keys.drop c).length c3, .slice q4 (n.vals.drop c).length c4, .slice none 0 0]) rfl rfl ⟨⟨_, rfl, by simp⟩, ⟨_, rfl, by simp⟩, ⟨_, rfl, by simp⟩, trivial⟩ rfl) rfl ?_
              refine MC.doesK true (does_store (vs := [bool true, .slice q3 (n.keys.drop c).length c3, .slice q4 (n.vals.drop c).length c4, .slice none 0 0]) hs rfl rfl rfl rfl (all1 rfl) (by simp)) rfl rfl rfl ?_
              intro _ w hs
              rw [splice_all (by rfl)] at hs
              refine zh ?_
              refine zd ?_
              refine zz ?_
              have hcl2 : c < n.keys.length := by omega
              obtain ⟨kb, ko, kcc, kq, kc2, hv0, hg, hrd, hk1⟩ := hk.get hcl2
              cases hv0
              have hj : rk[((c : Nat) : Int).toNat * 1]? = some (.slice kq n.keys[c].length kc2) := by rw [Int.toNat_natCast, Nat.mul_one]; exact hg
              have hkl3 := hks _ (List.getElem_mem hcl2)
              refine MC.draw hs [0, 1, 2, 3, 4, 5, 6, 7, 8, 9, 10, 11] (by rfl) ?_; intro w hs
              refine MC.laD true (la_loadV (vs := [bool true, .slice q1 (n.keys.take c).length c1, .slice q2 (n.vals.take c).length c2, .slice none 0 0]) hs rfl rfl rfl rfl) rfl ?_
              refine MC.laD true (la_loadV (vs := [bool true, .slice q3 (n.keys.drop c).length c3, .slice q4 (n.vals.drop c).length c4, .slice none 0 0]) hs rfl rfl rfl rfl) rfl ?_
              refine zd ?_
              refine MC.laD true (la_load1_rd hrd hs (j := ((c : Nat) : Int).toNat * 1) rfl hj) rfl ?_
              refine zd ?_
              have hcb := bclone_spec hs hk1.up (by omega)
              refine MC.doesK true (does_call rfl (hcb)) rfl rfl rfl ?_
              intro vk w hs
              refine zh ?_
              refine MC.doesK true (does_store (vs := [bool true, .slice q1 (n.keys.take c).length c1, .slice q2 (n.vals.take c).length c2, .slice none 0 0]) hs rfl rfl rfl rfl (all1 rfl) (by simp)) rfl rfl rfl ?_
              intro _ w hs
              rw [splice_all (by rfl)] at hs
              refine zh ?_
              refine MC.doesK true (does_store (vs := [bool true, .slice q3 (n.keys.drop c).length c3, .slice q4 (n.vals.drop c).length c4, .slice none 0 0]) hs rfl rfl rfl rfl (all1 rfl) (by simp)) rfl rfl rfl ?_
              intro _ w hs
              rw [splice_all (by rfl)] at hs
              refine zh ?_
              obtain ⟨_, qy, cy, rfl, _⟩ := hs.sl_len
              refine zd ?_
              refine zz ?_
              refine MC.retR (vs := [.agg [bool true, .slice q1 (n.keys.take c).length c1, .slice q2 (n.vals.take c).length c2, .slice none 0 0].toArray, .agg [bool true, .slice q3 (n.keys.drop c).length c3, .slice q4 (n.vals.drop c).length c4, .slice none 0 0].toArray, .slice qy n.keys[c].length cy, int 0]) ⟨⟨⟨b2, 0, none⟩, rfl, load_cellA hs rfl⟩, ⟨⟨b3, 0, none⟩, rfl, load_cellA hs rfl⟩, rfl, rfl, trivial⟩ ?_
              have hs := hs.pickF 12 [7, 5, 3, 1, 0, 8, 6, 4, 2] rfl rfl
              have hs := bods_app (bods_app (bods_app hs))
              have hs := ((hs.sl_nil 3 1).sl_nil 3 1).pickF 8 [3, 2, 4, 5, 0, 6, 7, 1] rfl rfl
              unfold SplitOut
              rw [hsp, getD_at hcl2]
              have g1 := hin1.mono (pool' := po1 ++ po2 ++ po3 ++ po4) fun x hx => by simp [hx]
              have g2 := hin2.mono (pool' := po1 ++ po2 ++ po3 ++ po4) fun x hx => by simp [hx]
              have g3 := hin3.mono (pool' := po1 ++ po2 ++ po3 ++ po4) fun x hx => by simp [hx]
              have g4 := hin4.mono (pool' := po1 ++ po2 ++ po3 ++ po4) fun x hx => by simp [hx]
              exact ⟨⟨.slice q1 (n.keys.take c).length c1, .slice q2 (n.vals.take c).length c2, .slice none 0 0, ro1, ro2⟩, ⟨.slice q3 (n.keys.drop c).length c3, .slice q4 (n.vals.drop c).length c4, .slice none 0 0, ro3, ro4⟩, _, po1 ++ po2 ++ po3 ++ po4, ⟨g1.1, g1.2, g2.1, g2.2⟩, ⟨g3.1, g3.2, g4.1, g4.2⟩, rfl, hs⟩
            · rw [if_neg (by rw [hb]; decide)] at h3 hsp
              obtain ⟨hv1, hk0, _⟩ := h3
              obtain ⟨d, hd⟩ : ∃ d, max 2 c = d := ⟨_, rfl⟩
              rw [hd] at hsp
              have hl3 := hl3 hb
              have hd1 : 2 ≤ d ∧ d ≤ n.keys.length - 1 := by omega
              have hmx : (max (2 : Int) ((c : Nat) : Int)) = ((d : Nat) : Int) := by omega
              refine zz ?_
              rw [hmx]
              have hdm : (((d : Nat) : Int) - 1) = ((d - 1 : Nat) : Int) := by omega
              have hdk : d - 1 ≤ n.keys.length := by omega
              refine MC.draw hs [0, 1, 2, 3, 4, 5, 6, 8, 9, 10, 11, 12, 7, 13, 14, 15] (by rfl) ?_; intro w hs
              refine zd ?_
              rw [hdm]
              refine MC.pure (f := true) (po_slice3_hi (b := d - 1) (m := d - 1) rfl rfl rfl (Nat.le_refl _) (by omega)) rfl ?_
              refine zd ?_
              refine MC.pure (f := true) (po_slice3_hi (b := d) (m := d) rfl rfl rfl (Nat.le_refl _) (by omega)) rfl ?_
              have ho1 := own_spec hs (hk.take (b := d - 1) (m := d - 1) hdk (Nat.le_refl _)).up (by rw [List.length_take]; omega) (fun k h => hks k (List.mem_of_mem_take h))
              refine MC.doesK true (does_call rfl (ho1)) rfl rfl rfl ?_
              rintro v1 w ⟨ro1, po1, hin1, hs⟩
              refine zh ?_
              have hct := (hc.takeL (b := d) (by omega)).cap (c' := d) (Nat.le_refl _)
              have ect : (bufV n.kids).take (d * 1) = bufV (n.kids.take d) := by rw [Nat.mul_one]; simp [bufV, List.map_take]
              rw [ect] at hct
              have ho2 := iclone2_spec hs hct.up (by rw [List.length_take]; omega)
              refine MC.doesK true (does_call rfl (ho2)) rfl rfl rfl ?_
              rintro v2 w hs
              refine zh ?_
              obtain ⟨_, q1, c1, rfl, _⟩ := hs.tail.tail.sl_len
              obtain ⟨_, q2, c2, rfl, _⟩ := hs.sl_len
              refine zd ?_
              refine MC.pure (f := true) (po_build (ls := [(1, [.slice q1 (n.keys.take (d - 1)).length c1]), (3, [.slice q2 (n.kids.take d).length c2])]) (out := [bool false, .slice q1 (n.keys.take (d - 1)).length c1, .slice none 0 0, .slice q2 (n.kids.take d).length c2]) rfl rfl ⟨⟨_, rfl, by simp⟩, ⟨_, rfl, by simp⟩, trivial⟩ rfl) rfl ?_
              refine MC.doesK true (does_store (vs := [bool false, .slice q1 (n.keys.take (d - 1)).length c1, .slice none 0 0, .slice q2 (n.kids.take d).length c2]) hs rfl rfl rfl rfl (all1 rfl) (by simp)) rfl rfl rfl ?_
              intro _ w hs
              rw [splice_all (by rfl)] at hs
              refine zh ?_
              refine zd ?_
              refine zz ?_
              refine MC.draw hs [0, 1, 2, 3, 5, 6, 7, 8, 4, 9, 10, 11] (by rfl) ?_; intro w hs
              refine zd ?_
              refine MC.pure (f := true) (po_slice_lo (a := d) rfl rfl (by omega)) rfl ?_
              refine zd ?_
              refine MC.pure (f := true) (po_slice_lo (a := d) rfl rfl (by omega)) rfl ?_
              have ho3 := own_spec hs (hk.drop (a := d) (by omega)).up (by rw [List.length_drop]; omega) (fun k h => hks k (List.mem_of_mem_drop h))
              refine MC.doesK true (does_call rfl (ho3)) rfl rfl rfl ?_
              rintro v3 w ⟨ro3, po3, hin3, hs⟩
              refine zh ?_
              have hcd := hc.dropL (a := d) (by omega)
              have ecd : (bufV n.kids).drop (d * 1) = bufV (n.kids.drop d) := by rw [Nat.mul_one]; simp [bufV, List.map_drop]
              rw [ecd] at hcd
              have ho4 := iclone2_spec hs hcd.up (by rw [List.length_drop]; omega)
              refine MC.doesK true (does_call rfl (ho4)) rfl rfl rfl ?_
              rintro v4 w hs
              refine zh ?_
              obtain ⟨_, q3, c3, rfl, _⟩ := hs.tail.tail.sl_len
              obtain ⟨_, q4, c4, rfl, _⟩ := hs.sl_len
              refine zd ?_
              refine MC.pure (f := true) (po_build (ls := [(1, [.slice q3 (n.keys.drop d).length c3]), (3, [.slice q4 (n.kids.drop d).length c4])]) (out := [bool false, .slice q3 (n.keys.drop d).length c3, .slice none 0 0, .slice q4 (n.kids.drop d).length c4]) rfl rfl ⟨⟨_, rfl, by simp⟩, ⟨_, rfl, by simp⟩, trivial⟩ rfl) rfl ?_
              refine MC.doesK true (does_store (vs := [bool false, .slice q3 (n.keys.drop d).length c3, .slice none 0 0, .slice q4 (n.kids.drop d).length c4]) hs rfl rfl rfl rfl (all1 rfl) (by simp)) rfl rfl rfl ?_
              intro _ w hs
              rw [splice_all (by rfl)] at hs
              refine zh ?_
              refine zd ?_
              refine zz ?_
              have hcl2 : d - 1 < n.keys.length := by omega
              obtain ⟨kb, ko, kcc, kq, kc2, hv0, hg, hrd, hk1⟩ := hk.get hcl2
              cases hv0
              have hj : rk[(((d - 1 : Nat)) : Int).toNat * 1]? = some (.slice kq n.keys[d - 1].length kc2) := by rw [Int.toNat_natCast, Nat.mul_one]; exact hg
              have hkl3 := hks _ (List.getElem_mem hcl2)
              refine MC.draw hs [0, 1, 2, 3, 4, 5, 6, 7, 8, 9, 10, 11, 12] (by rfl) ?_; intro w hs
              refine MC.laD true (la_loadV (vs := [bool false, .slice q1 (n.keys.take (d - 1)).length c1, .slice none 0 0, .slice q2 (n.kids.take d).length c2]) hs rfl rfl rfl rfl) rfl ?_
              refine MC.laD true (la_loadV (vs := [bool false, .slice q3 (n.keys.drop d).length c3, .slice none 0 0, .slice q4 (n.kids.drop d).length c4]) hs rfl rfl rfl rfl) rfl ?_
              refine zd ?_
              have hj' : rk[(((d : Nat) : Int) - 1).toNat * 1]? = some (.slice kq n.keys[d - 1].length kc2) := by rw [hdm]; exact hj
              refine MC.laD true (la_load1_rd hrd hs (j := (((d : Nat) : Int) - 1).toNat * 1) rfl hj') rfl ?_
              refine zd ?_
              have hcb := bclone_spec hs hk1.up (by omega)
              refine MC.doesK true (does_call rfl (hcb)) rfl rfl rfl ?_
              intro vk w hs
              refine zh ?_
              refine MC.doesK true (does_store (vs := [bool false, .slice q1 (n.keys.take (d - 1)).length c1, .slice none 0 0, .slice q2 (n.kids.take d).length c2]) hs rfl rfl rfl rfl (all1 rfl) (by simp)) rfl rfl rfl ?_
              intro _ w hs
              rw [splice_all (by rfl)] at hs
              refine zh ?_
              refine MC.doesK true (does_store (vs := [bool false, .slice q3 (n.keys.drop d).length c3, .slice none 0 0, .slice q4 (n.kids.drop d).length c4]) hs rfl rfl rfl rfl (all1 rfl) (by simp)) rfl rfl rfl ?_
              intro _ w hs
              rw [splice_all (by rfl)] at hs
              refine zh ?_
              obtain ⟨_, qy, cy, rfl, _⟩ := hs.sl_len
              refine zd ?_
              refine zz ?_
              refine MC.retR (vs := [.agg [bool false, .slice q1 (n.keys.take (d - 1)).length c1, .slice none 0 0, .slice q2 (n.kids.take d).length c2].toArray, .agg [bool false, .slice q3 (n.keys.drop d).length c3, .slice none 0 0, .slice q4 (n.kids.drop d).length c4].toArray, .slice qy n.keys[d - 1].length cy, int 0]) ⟨⟨⟨b2, 0, none⟩, rfl, load_cellA hs rfl⟩, ⟨⟨b3, 0, none⟩, rfl, load_cellA hs rfl⟩, rfl, rfl, trivial⟩ ?_
              have hs := hs.pickF 10 [5, 2, 0, 6, 4, 3, 1] rfl rfl
              have hs := bods_app hs
              have hs := ((hs.sl_nil 44 1).sl_nil 44 1).pickF 8 [3, 2, 4, 0, 5, 6, 1, 7] rfl rfl
              unfold SplitOut
              rw [hsp, getD_at hcl2]
              have g1 := hin1.mono (pool' := po1 ++ po3) fun x hx => by simp [hx]
              have g3 := hin3.mono (pool' := po1 ++ po3) fun x hx => by simp [hx]
              exact ⟨⟨.slice q1 (n.keys.take (d - 1)).length c1, .slice none 0 0, .slice q2 (n.kids.take d).length c2, ro1, []⟩, ⟨.slice q3 (n.keys.drop d).length c3, .slice none 0 0, .slice q4 (n.kids.drop d).length c4, ro3, []⟩, _, po1 ++ po3, ⟨g1.1, g1.2, rfl, fun i k h => (by cases h)⟩, ⟨g3.1, g3.2, rfl, fun i k h => (by cases h)⟩, rfl, hs⟩
    · rw [decide_eq_false hsd]
      refine zz ?_
      refine MC.pure (f := true) (po_build (ls := []) (out := zeroN) rfl rfl trivial rfl) rfl ?_
      refine MC.pure (f := true) (po_build (ls := []) (out := zeroN) rfl rfl trivial rfl) rfl ?_
      refine MC.does true (does_store (vs := zeroN) hs rfl rfl rfl rfl (all1 rfl) (by simp)) rfl ?_; intro _ w hs; rw [splice_all (by rfl)] at hs
      refine MC.does true (does_store (vs := zeroN) hs rfl rfl rfl rfl (all1 rfl) (by simp)) rfl ?_; intro _ w hs; rw [splice_all (by rfl)] at hs
      refine zz ?_
      exact MC.retR (vs := [.agg zeroN.toArray, .agg zeroN.toArray, .slice none 0 0, int 200]) ⟨⟨⟨b2, 0, none⟩, rfl, load_cellA hs rfl⟩, ⟨⟨b3, 0, none⟩, rfl, load_cellA hs rfl⟩, rfl, rfl, trivial⟩ (hnone (.inl hsd) _ (hs.pickF 3 [] rfl rfl))
end Go.Proofs.YtjlofdodiaklaaaGreat
