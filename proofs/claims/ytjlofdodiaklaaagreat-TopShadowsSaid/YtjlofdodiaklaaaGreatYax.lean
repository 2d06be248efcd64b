/-
  Nodes: take, piece, kid, parse, Read
-/
import Derived.Test.YtjlofdodiaklaaaGreatYaw
set_option maxHeartbeats 1000000
set_option linter.unusedVariables false
set_option linter.unusedSimpArgs false
namespace Go.Proofs.YtjlofdodiaklaaaGreat
open Go Go.Sl Go.Tr
attribute [local irreducible] LooksAt

section
variable {F G : List Assn} {bp : Nat} {vl : Value} {l : Bs} {w : World}
theorem ntake_spec {n : Nat} (hs : Sat (blk bp [vl] 44 :: G) w) (hl : RdS F 1 vl l.length (bytesV l)) [hF : Suf G F] (hll : l.length ≤ 1000) (hn : n ≤ 1000) :
    Ret Tryz.prog 133 [ptr bp, int ((n : Nat) : Int)] w fun v w' => match takeB n l with
      | none => v = .tuple #[.slice none 0 0, bool false] ∧ Sat (blk bp [vl] 44 :: G) w'
      | some (a, r) => a.length = n ∧ ∃ va vl', v = .tuple #[va, bool true] ∧ RdS F 1 vl' r.length (bytesV r) ∧ Sat (sl va 5 1 a.length (bytesV a) :: blk bp [vl'] 44 :: G) w' := by
  obtain ⟨p, c, rfl, hc, _⟩ := hl.shape
  unfold takeB
  refine Ret.enter [(true, ptr bp), (true, int ((n : Nat) : Int))] _ Tryz.func133 rfl Tryz.ntmps133 rfl ?_
  by_cases h : l.length < n
  · rw [if_pos h]
    refine zz ?_
    refine MC.ret rfl ?_
    exact ⟨rfl, hs⟩
  · rw [if_neg h]
    have h : n ≤ l.length := by omega
    have hh := hl.subHi h
    have hlo := hl.subLo h
    refine zz ?_
    refine MC.pure (f := true) (po_slice_hi (b := n) rfl rfl (by omega)) rfl ?_
    have e1 : (l.take n).length = n := by rw [List.length_take]; omega
    have hcl := bclone_spec hs hh.up (by rw [List.length_take]; omega)
    refine MC.does true (does_call rfl (hcl)) rfl ?_
    intro va w hs
    obtain ⟨_, q, cq, rfl, _⟩ := hs.sl_len
    refine zz ?_
    refine MC.pure (f := true) (po_slice_lo (a := n) rfl rfl h) rfl ?_
    refine zz ?_
    refine MC.does true (does_store1 hs rfl rfl rfl (by first | decide | (simp; done) | (simp; omega))) rfl ?_; intro _ w hs
    refine zz ?_
    refine MC.ret rfl ?_
    exact ⟨e1, _, _, rfl, by rw [List.length_drop]; exact hlo, hs⟩
theorem npiece_spec (hs : Sat (blk bp [vl] 44 :: G) w) (hl : RdS F 1 vl l.length (bytesV l)) [hF : Suf G F] (hll : l.length ≤ 1000) :
    Ret Tryz.prog 127 [ptr bp] w fun v w' => match pieceB l with
      | none => ∃ vl', v = .tuple #[.slice none 0 0, bool false] ∧ Sat (blk bp [vl'] 44 :: G) w'
      | some (a, r) => a.length ≤ 255 ∧ r.length ≤ l.length ∧ ∃ va vl', v = .tuple #[va, bool true] ∧ RdS F 1 vl' r.length (bytesV r) ∧ Sat (sl va 5 1 a.length (bytesV a) :: blk bp [vl'] 44 :: G) w' := by
  have ht := ntake_spec (n := 1) hs hl hll (by decide)
  refine Ret.enter [(true, ptr bp)] _ Tryz.func127 rfl Tryz.ntmps127 rfl ?_
  refine zz ?_
  refine MC.does true (does_call rfl (ht)) rfl ?_
  intro v w hv
  cases h1 : takeB 1 l with
  | none =>
    have hp : pieceB l = none := by unfold pieceB; rw [h1]
    rw [h1] at hv
    rw [hp]
    obtain ⟨rfl, hs⟩ := hv
    refine zz ?_
    refine MC.ret rfl ?_
    exact ⟨_, rfl, hs⟩
  | some x =>
    obtain ⟨a, r⟩ := x
    rw [h1] at hv
    obtain ⟨ha, va, vl', rfl, hr, hs⟩ := hv
    have hrl : r.length ≤ l.length := by
      unfold takeB at h1
      split at h1
      · cases h1
      · cases h1; rw [List.length_drop]; omega
    obtain ⟨c0, rfl⟩ : ∃ c0, a = [c0] := List.length_eq_one_iff.1 ha
    obtain ⟨_, q, cq, rfl, _⟩ := hs.sl_len
    have hr0 := RdS.of_sl hs
    obtain ⟨lb, lo, rfl, hrd⟩ := hr0.at_ (by simp)
    have hc0 := c0.toNat_lt
    refine zz ?_
    refine MC.la true (la_load1_rd hrd hs (j := Int.toNat 0 * 1) rfl (by rfl)) rfl ?_
    refine zz ?_
    have hs := hs.tail
    have ht2 := ntake_spec (n := c0.toNat) hs hr (by omega) (by omega)
    refine MC.does true (does_call rfl (ht2)) rfl ?_
    intro v w hv
    have hp : pieceB l = takeB c0.toNat r := by unfold pieceB; rw [h1]
    rw [hp]
    cases h2 : takeB c0.toNat r with
    | none =>
      rw [h2] at hv
      obtain ⟨rfl, hs⟩ := hv
      refine zz ?_
      refine MC.ret rfl ?_
      exact ⟨_, rfl, hs⟩
    | some x =>
      obtain ⟨a, r2⟩ := x
      rw [h2] at hv
      obtain ⟨ha2, va, vl2, rfl, hr2, hs⟩ := hv
      have hrl2 : r2.length ≤ r.length := by
        unfold takeB at h2
        split at h2
        · cases h2
        · cases h2; rw [List.length_drop]; omega
      refine zz ?_
      refine MC.ret rfl ?_
      exact ⟨by omega, by omega, va, vl2, rfl, hr2, hs⟩
theorem nkid_spec (hs : Sat (blk bp [vl] 44 :: G) w) (hl : RdS F 1 vl l.length (bytesV l)) [hF : Suf G F] (hll : l.length ≤ 1000) :
    Ret Tryz.prog 126 [ptr bp] w fun v w' => match kidB l with
      | none => ∃ vl', v = .tuple #[int 0, bool false] ∧ Sat (blk bp [vl'] 44 :: G) w'
      | some (k, r) => k < 65536 ∧ r.length ≤ l.length ∧ ∃ vl', v = .tuple #[int ((k : Nat) : Int), bool true] ∧ RdS F 1 vl' r.length (bytesV r) ∧ Sat (blk bp [vl'] 44 :: G) w' := by
  have ht := ntake_spec (n := 2) hs hl hll (by decide)
  refine Ret.enter [(true, ptr bp)] _ Tryz.func126 rfl Tryz.ntmps126 rfl ?_
  refine zz ?_
  refine MC.does true (does_call rfl (ht)) rfl ?_
  intro v w hv
  cases h1 : takeB 2 l with
  | none =>
    have hp : kidB l = none := by unfold kidB; rw [h1]
    rw [h1] at hv
    rw [hp]
    obtain ⟨rfl, hs⟩ := hv
    refine zz ?_
    refine MC.ret rfl ?_
    exact ⟨_, rfl, hs⟩
  | some x =>
    obtain ⟨a, r⟩ := x
    rw [h1] at hv
    obtain ⟨ha, va, vl', rfl, hr, hs⟩ := hv
    have hrl : r.length ≤ l.length := by
      unfold takeB at h1
      split at h1
      · cases h1
      · cases h1; rw [List.length_drop]; omega
    obtain ⟨c0, c1, rfl⟩ : ∃ c0 c1, a = [c0, c1] := by
      match a, ha with
      | [c0, c1], _ => exact ⟨c0, c1, rfl⟩
    obtain ⟨_, q, cq, rfl, _⟩ := hs.sl_len
    have hr0 := RdS.of_sl hs
    obtain ⟨lb, lo, rfl, hrd⟩ := hr0.at_ (by simp)
    have hc0 := c0.toNat_lt
    have hc1 := c1.toNat_lt
    have hp : kidB l = some (c0.toNat * 256 + c1.toNat, r) := by unfold kidB; rw [h1]
    rw [hp]
    refine zz ?_
    refine MC.draw hs [0, 1, 2, 3, 4, 5, 6, 7, 8, 9, 10, 11] (by rfl) ?_; intro w hs
    refine zd ?_
    refine MC.laD true (la_load1_rd hrd hs (j := Int.toNat 0 * 1) rfl (by rfl)) rfl ?_
    refine zd ?_
    refine MC.laD true (la_load1_rd hrd hs (j := Int.toNat 1 * 1) rfl (by rfl)) rfl ?_
    refine zd ?_
    refine MC.pure (f := true) (po_bin rfl rfl (br_orS' 8 c0.toNat (by omega) (by show ((c1.toNat : Nat) : Int) < 256; omega) (by show ((c0.toNat : Nat) : Int) * 256 = _; rfl) (by simp [IntKind.max, IntKind.signed, IntKind.bits]; omega))) rfl ?_
    refine zd ?_
    refine MC.ret rfl ?_
    refine ⟨by omega, hrl, vl', ?_, hr, hs.tail⟩
    rw [Int.natCast_add, Int.natCast_mul]
    rfl
end
structure NdIn (pool : List (Value × Bs)) (y : NdV) (n : Nd) : Prop where
  kl : y.rk.length = n.keys.length
  key : ∀ (i : Nat) (k : Bs), n.keys[i]? = some k → ∃ u, y.rk[i]? = some u ∧ (u, k) ∈ pool
  vl : y.rv.length = n.vals.length
  val : ∀ (i : Nat) (k : Bs), n.vals[i]? = some k → ∃ u, y.rv[i]? = some u ∧ (u, k) ∈ pool
abbrev ndP (pool : List (Value × Bs)) (y : NdV) (n : Nd) (F : List Assn) : List Assn := bods 5 pool :: sl y.sk 44 1 n.keys.length y.rk :: sl y.sv 44 1 n.vals.length y.rv :: sl y.si 3 1 n.kids.length (bufV n.kids) :: F
structure Few (n : Nd) : Prop where
  keys : n.keys.length ≤ 600
  vals : n.vals.length ≤ 600
  kids : n.kids.length ≤ 600
  k : ∀ k ∈ n.keys, k.length ≤ 255
  v : ∀ k ∈ n.vals, k.length ≤ 255
  c : ∀ k ∈ n.kids, k < 65536
theorem NdIn.read {F : List Assn} {pool : List (Value × Bs)} {y : NdV} {n : Nd} {w : World} (h : NdIn pool y n) (hf : Few n) (hs : Sat (ndP pool y n F) w) : NdR (ndP pool y n F) y n := by
  have hp := fun x hx => bods_rd hs (x := x) hx
  have h1 := RdS.of_sl hs.tail
  have h2 := RdS.of_sl hs.tail.tail
  have h3 := RdS.of_sl hs.tail.tail.tail
  refine ⟨⟨h1.up, fun i hi => ?_⟩, ⟨h2.up, fun i hi => ?_⟩, h3.up, ⟨by have := hf.keys; omega, by have := hf.vals; omega, by have := hf.kids; omega⟩, fun k hk => by have := hf.k k hk; omega, fun k hk => by have := hf.v k hk; omega⟩
  · obtain ⟨u, g1, g2⟩ := h.key i n.keys[i] (List.getElem?_eq_getElem hi)
    exact ⟨u, g1, hp _ g2⟩
  · obtain ⟨u, g1, g2⟩ := h.val i n.vals[i] (List.getElem?_eq_getElem hi)
    exact ⟨u, g1, hp _ g2⟩
theorem pool_snoc {pool : List (Value × Bs)} {rk : List Value} {ks : List Bs} {u : Value} {k : Bs} (hl : rk.length = ks.length) (h : ∀ (i : Nat) (k : Bs), ks[i]? = some k → ∃ u, rk[i]? = some u ∧ (u, k) ∈ pool) : ∀ (i : Nat) (k' : Bs), (ks ++ [k])[i]? = some k' → ∃ u', (rk ++ [u])[i]? = some u' ∧ (u', k') ∈ pool ++ [(u, k)] := fun i k' hk => by
  rcases Nat.lt_or_ge i ks.length with h' | h'
  · rw [List.getElem?_append_left h'] at hk
    obtain ⟨u', g1, g2⟩ := h i k' hk
    exact ⟨u', by rw [List.getElem?_append_left (by omega)]; exact g1, List.mem_append_left _ g2⟩
  · rw [List.getElem?_append_right h'] at hk
    cases hi : i - ks.length with
    | zero =>
      rw [hi] at hk
      cases hk
      exact ⟨u, by rw [List.getElem?_append_right (by omega), hl, hi]; rfl, List.mem_append_right _ (List.mem_singleton.2 rfl)⟩
    | succ j => rw [hi] at hk; cases hk
theorem pool_up {pool pool' : List (Value × Bs)} {rk : List Value} {ks : List Bs} (hp : ∀ x ∈ pool, x ∈ pool') (h : ∀ (i : Nat) (k : Bs), ks[i]? = some k → ∃ u, rk[i]? = some u ∧ (u, k) ∈ pool) : ∀ (i : Nat) (k : Bs), ks[i]? = some k → ∃ u, rk[i]? = some u ∧ (u, k) ∈ pool' := fun i k hk => by
  obtain ⟨u, g1, g2⟩ := h i k hk
  exact ⟨u, g1, hp _ g2⟩
structure Pz where
  i : Nat
  ks : List Bs
  vs : List Bs
  cs : List Nat
  r : Bs
  vl : Value
  y : NdV
  pool : List (Value × Bs)
theorem nparse_leaf {F : List Assn} {vl : Value} {l : Bs} {w : World} (hs : Sat F w) (hl : RdS F 1 vl l.length (bytesV l)) (h256 : l.length = 256) (hb : byteAt l 0 = 1) :
    Ret Tryz.prog 117 [vl] w fun v w' => match parseL (l.getD 1 0).toNat [] [] (l.drop 2) with
      | none => ∃ u : List Value, v = .tuple #[.agg u.toArray, bool false] ∧ u.length = 4 ∧ (∀ x ∈ u, x.oneCell' = true) ∧ Sat F w'
      | some (ks, vs) => ∃ y pool, NdIn pool y ⟨true, ks, vs, []⟩ ∧ Few ⟨true, ks, vs, []⟩ ∧ v = .tuple #[y.val ⟨true, ks, vs, []⟩, bool true] ∧ Sat (ndP pool y ⟨true, ks, vs, []⟩ F) w' := by
  obtain ⟨p, c, rfl, hc, _⟩ := hl.shape
  obtain ⟨lb, lo, rfl, hrd⟩ := hl.at_ (by omega)
  have hb0 := Go.Sl.bytesV_get l 0 (by omega)
  have hb1 := Go.Sl.bytesV_get l 1 (by omega)
  have hlo := hl.subLo (a := 2) (by omega)
  rw [hb] at hb0
  have hb1' : byteAt l 1 = (((l.getD 1 0).toNat : Nat) : Int) := by
    unfold byteAt; rw [List.getD_eq_getElem?_getD]
  rw [hb1'] at hb1
  have hcnt := (l.getD 1 0).toNat_lt
  generalize (l.getD 1 0).toNat = cnt at *
  refine Ret.enter [(true, .slice (some ⟨lb, lo, none⟩) l.length c)] _ Tryz.func117 rfl Tryz.ntmps117 rfl ?_
  refine zz ?_
  refine MC.does true (does_alloc hs) rfl ?_; rintro _ w ⟨b2, rfl, hs⟩
  refine zz ?_
  refine MC.la true (la_load1_rd hrd hs (j := Int.toNat 0 * 1) rfl hb0) rfl ?_
  refine zz ?_
  refine MC.pure (f := true) (po_build (ls := [(0, [bool true])]) (out := [bool true, .slice none 0 0, .slice none 0 0, .slice none 0 0]) rfl rfl ⟨⟨_, rfl, by simp⟩, trivial⟩ rfl) rfl ?_
  refine MC.does true (does_alloc hs) rfl ?_; rintro _ w ⟨bn, rfl, hs⟩
  refine zz ?_
  refine MC.does true (does_store (vs := [bool true, .slice none 0 0, .slice none 0 0, .slice none 0 0]) hs rfl rfl rfl rfl (all1 rfl) (by simp)) rfl ?_; intro _ w hs; rw [splice_all (by rfl)] at hs
  refine zz ?_
  refine MC.pure (f := true) (po_slice_lo (a := 2) rfl rfl (by omega)) rfl ?_
  refine zz ?_
  refine MC.does true (does_alloc hs) rfl ?_; rintro _ w ⟨bp, rfl, hs⟩
  refine zz ?_
  refine MC.does true (does_store1 hs rfl rfl rfl (by first | decide | (simp; done) | (simp; omega))) rfl ?_; intro _ w hs
  refine zz ?_
  refine MC.la true (la_load1_rd hrd hs (j := Int.toNat 1 * 1) rfl hb1) rfl ?_
  refine zz ?_
  generalize Sl.cutAt (some ⟨lb, lo, none⟩) 2 c 1 = p0 at *
  rw [show l.length - 2 = (l.drop 2).length by simp] at *
  have hl2 : (l.drop 2).length ≤ 256 := by rw [List.length_drop]; omega
  generalize l.drop 2 = l2 at *
  generalize hres : parseL cnt [] [] l2 = res
  have hs := bods_nil (t := 5) ((hs.sl_nil 44 1).sl_nil 44 1)
  have hs := hs.pickF 6 [3, 4, 1, 2, 0, 5] rfl rfl
  refine MC.loop (σ := Pz) (fun x => [(2, true, ptr b2), (4, true, ptr bn), (5, true, ptr bp), (39, true, .int .u8 ((cnt : Nat) : Int)), (40, true, .int .u8 ((x.i : Nat) : Int))])
    (fun x w => x.i ≤ cnt ∧ parseL (cnt - x.i) x.ks x.vs x.r = res ∧ x.ks.length = x.i ∧ x.vs.length = x.i ∧ (∀ k ∈ x.ks, k.length ≤ 255) ∧ (∀ k ∈ x.vs, k.length ≤ 255) ∧ x.r.length ≤ 256 ∧ RdS F 1 x.vl x.r.length (bytesV x.r) ∧ NdIn x.pool x.y ⟨true, x.ks, x.vs, []⟩ ∧
      Sat (blk bp [x.vl] 44 :: blk bn [bool true, x.y.sk, x.y.sv, .slice none 0 0] 97 :: sl x.y.sk 44 1 x.ks.length x.y.rk :: sl x.y.sv 44 1 x.vs.length x.y.rv :: bods 5 x.pool :: blk b2 [bool false, .slice none 0 0, .slice none 0 0, .slice none 0 0] 97 :: F) w)
    (fun x => cnt - x.i) ⟨0, [], [], [], l2, .slice p0 l2.length (c - 2), ⟨.slice none 0 0, .slice none 0 0, .slice none 0 0, [], []⟩, []⟩ (by repeat (first | exact trivial | refine ⟨rfl, ?_⟩)) ⟨Nat.zero_le _, hres, rfl, rfl, fun k h => (by cases h), fun k h => (by cases h), hl2, hlo, ⟨rfl, fun i k h => (by cases h), rfl, fun i k h => (by cases h)⟩, hs⟩ ?_
  clear hs
  rintro ⟨i, ks, vs, cs, r, vl, ⟨sk, sv, si, rk, rv⟩, pool⟩ w ⟨hi, hpl, hkl, hvl, hk255, hv255, hrl, hr, hin, hs⟩
  dsimp only [] at hi hpl hkl hvl hk255 hv255 hrl hr hin hs ⊢
  obtain ⟨_, qk, ck, rfl, hck⟩ := (hs.pickF 4 [2, 0, 1, 3] rfl rfl).sl_len
  obtain ⟨_, qv, cv, rfl, hcv⟩ := (hs.pickF 4 [3, 0, 1, 2] rfl rfl).sl_len
  rcases Nat.lt_or_ge i cnt with hlt | hge
  · have hp := npiece_spec hs hr (by omega)
    refine zz ?_
    refine MC.does true (does_call rfl (hp)) rfl ?_
    intro v w hv
    rw [show cnt - i = (cnt - (i + 1)) + 1 by omega] at hpl
    unfold parseL at hpl
    cases h1 : pieceB r with
    | none =>
      rw [h1] at hv hpl
      obtain ⟨vl', rfl, hs⟩ := hv
      refine zz ?_
      refine MC.la true (la_loadV (vs := [bool true, .slice qk ks.length ck, .slice qv vs.length cv, .slice none 0 0]) hs rfl rfl rfl rfl) rfl ?_
      refine MC.does true (does_store (vs := [bool true, .slice qk ks.length ck, .slice qv vs.length cv, .slice none 0 0]) hs rfl rfl rfl rfl (all1 rfl) (by simp)) rfl ?_; intro _ w hs; rw [splice_all (by rfl)] at hs
      refine zz ?_
      refine MC.retR (vs := [.agg [bool true, .slice qk ks.length ck, .slice qv vs.length cv, .slice none 0 0].toArray, bool false]) ⟨⟨⟨b2, 0, none⟩, rfl, load_cellA hs rfl⟩, rfl, trivial⟩ ?_
      rw [← hpl]
      exact ⟨[bool true, .slice qk ks.length ck, .slice qv vs.length cv, .slice none 0 0], rfl, rfl, by simp [Value.oneCell'], hs.pickF 6 [] rfl rfl⟩
    | some x =>
      obtain ⟨k, r1⟩ := x
      rw [h1] at hv hpl
      obtain ⟨hk1, hr1, va, vl1, rfl, hrd1, hs⟩ := hv
      obtain ⟨_, qa, ca, rfl, _⟩ := hs.sl_len
      refine zz ?_
      refine MC.does true (does_buildL hs rfl rfl rfl (all1 rfl) rfl) rfl ?_; rintro _ w ⟨bt, rfl, hs⟩
      refine zz ?_
      refine MC.does true (does_append hs rfl rfl (src_at rfl (all1 rfl)) (by omega) (by omega)) rfl ?_
      intro vk w hs
      have hs := (bods_add rfl ((hs.tail).pickF 6 [0, 5, 1, 2, 3, 4] rfl rfl)).pickF 5 [1, 2, 3, 4, 0] rfl rfl
      obtain ⟨_, qk2, ck2, rfl, hck2⟩ := (hs.pickF 4 [2, 0, 1, 3] rfl rfl).sl_len
      refine zz ?_
      refine MC.does true (does_store1 hs rfl rfl rfl (by first | decide | (simp; done) | (simp; omega))) rfl ?_; intro _ w hs
      refine zz ?_
      have hp := npiece_spec hs hrd1 (by omega)
      refine MC.does true (does_call rfl (hp)) rfl ?_
      intro v w hv
      dsimp only [] at hpl
      cases h2 : pieceB r1 with
      | none =>
        rw [h2] at hv hpl
        obtain ⟨vl', rfl, hs⟩ := hv
        refine zz ?_
        refine MC.la true (la_loadV (vs := [bool true, .slice qk2 (ks.length + 1) ck2, .slice qv vs.length cv, .slice none 0 0]) hs rfl rfl rfl rfl) rfl ?_
        refine MC.does true (does_store (vs := [bool true, .slice qk2 (ks.length + 1) ck2, .slice qv vs.length cv, .slice none 0 0]) hs rfl rfl rfl rfl (all1 rfl) (by simp)) rfl ?_; intro _ w hs; rw [splice_all (by rfl)] at hs
        refine zz ?_
        refine MC.retR (vs := [.agg [bool true, .slice qk2 (ks.length + 1) ck2, .slice qv vs.length cv, .slice none 0 0].toArray, bool false]) ⟨⟨⟨b2, 0, none⟩, rfl, load_cellA hs rfl⟩, rfl, trivial⟩ ?_
        rw [← hpl]
        exact ⟨[bool true, .slice qk2 (ks.length + 1) ck2, .slice qv vs.length cv, .slice none 0 0], rfl, rfl, by simp [Value.oneCell'], hs.pickF 6 [] rfl rfl⟩
      | some x =>
        obtain ⟨k2, r2⟩ := x
        rw [h2] at hv hpl
        dsimp only [] at hpl
        obtain ⟨hk2, hr2, vb, vl2, rfl, hrd2, hs⟩ := hv
        obtain ⟨_, qb, cb, rfl, _⟩ := hs.sl_len
        refine zz ?_
        refine MC.does true (does_buildL hs rfl rfl rfl (all1 rfl) rfl) rfl ?_; rintro _ w ⟨bt2, rfl, hs⟩
        refine zz ?_
        refine MC.does true (does_append hs rfl rfl (src_at rfl (all1 rfl)) (by omega) (by omega)) rfl ?_
        intro vv w hs
        have hs := (bods_add rfl ((hs.tail).pickF 6 [0, 5, 1, 2, 3, 4] rfl rfl)).pickF 5 [1, 2, 3, 4, 0] rfl rfl
        obtain ⟨_, qv2, cv2, rfl, hcv2⟩ := (hs.pickF 4 [3, 0, 1, 2] rfl rfl).sl_len
        refine zz ?_
        refine MC.does true (does_store1 hs rfl rfl rfl (by first | decide | (simp; done) | (simp; omega))) rfl ?_; intro _ w hs
        refine zz ?_
        have ek : ks.length + 1 = (ks ++ [k]).length := by simp
        have ev : vs.length + 1 = (vs ++ [k2]).length := by simp
        rw [ek, ev] at hs
        have e1 : IntKind.u8.wrap (((i : Nat) : Int) + 1) = (((i + 1 : Nat)) : Int) := by rw [wrap_u8]; omega
        rw [e1]
        refine MC.again ⟨i + 1, ks ++ [k], vs ++ [k2], [], r2, vl2, ⟨.slice qk2 (ks ++ [k]).length ck2, .slice qv2 (vs ++ [k2]).length cv2, .slice none 0 0, rk ++ [Value.slice qa k.length ca], rv ++ [Value.slice qb k2.length cb]⟩, pool ++ [(Value.slice qa k.length ca, k)] ++ [(Value.slice qb k2.length cb, k2)]⟩ (by repeat (first | exact trivial | refine ⟨rfl, ?_⟩)) ⟨hlt, hpl, by simp [hkl], by simp [hvl], fun x hx => ?_, fun x hx => ?_, by show r2.length ≤ 256; omega, hrd2, ⟨by simpa using hin.kl, pool_up (fun x hx => List.mem_append_left _ hx) (pool_snoc hin.kl hin.key), by simpa using hin.vl, pool_snoc hin.vl (pool_up (fun x hx => List.mem_append_left _ hx) hin.val)⟩, hs⟩ (by show cnt - (i + 1) < cnt - i; omega)
        · rcases List.mem_append.1 hx with h | h
          · exact hk255 x h
          · rw [List.mem_singleton.1 h]; exact hk1
        · rcases List.mem_append.1 hx with h | h
          · exact hv255 x h
          · rw [List.mem_singleton.1 h]; exact hk2
  · obtain rfl : i = cnt := by omega
    refine zz ?_
    refine MC.la true (la_loadV (vs := [bool true, .slice qk ks.length ck, .slice qv vs.length cv, .slice none 0 0]) hs rfl rfl rfl rfl) rfl ?_
    refine MC.does true (does_store (vs := [bool true, .slice qk ks.length ck, .slice qv vs.length cv, .slice none 0 0]) hs rfl rfl rfl rfl (all1 rfl) (by simp)) rfl ?_; intro _ w hs; rw [splice_all (by rfl)] at hs
    refine zz ?_
    refine MC.retR (vs := [.agg [bool true, .slice qk ks.length ck, .slice qv vs.length cv, .slice none 0 0].toArray, bool true]) ⟨⟨⟨b2, 0, none⟩, rfl, load_cellA hs rfl⟩, rfl, trivial⟩ ?_
    rw [← hpl, Nat.sub_self]
    unfold parseL
    refine ⟨⟨.slice qk ks.length ck, .slice qv vs.length cv, .slice none 0 0, rk, rv⟩, pool, ⟨hin.kl, hin.key, hin.vl, hin.val⟩, ⟨by show ks.length ≤ 600; omega, by show vs.length ≤ 600; omega, Nat.zero_le _, hk255, hv255, fun k h => (by cases h)⟩, rfl, ?_⟩
    have hs := hs.pickF 6 [4, 2, 3] rfl rfl
    exact (hs.sl_nil 3 1).pickF 4 [1, 2, 3, 0] rfl rfl
def innerB (l : Bs) : Option (List Bs × List Nat) := match kidB (l.drop 2) with
  | none => none
  | some (c, r) => parseI (l.getD 1 0).toNat [] [c] r
theorem nparse_inner {F : List Assn} {vl : Value} {l : Bs} {w : World} (hs : Sat F w) (hl : RdS F 1 vl l.length (bytesV l)) (h256 : l.length = 256) (hb : byteAt l 0 ≠ 1) :
    Ret Tryz.prog 117 [vl] w fun v w' => match innerB l with
      | none => ∃ u : List Value, v = .tuple #[.agg u.toArray, bool false] ∧ u.length = 4 ∧ (∀ x ∈ u, x.oneCell' = true) ∧ Sat F w'
      | some (ks, cs) => ∃ y pool, NdIn pool y ⟨false, ks, [], cs⟩ ∧ Few ⟨false, ks, [], cs⟩ ∧ v = .tuple #[y.val ⟨false, ks, [], cs⟩, bool true] ∧ Sat (ndP pool y ⟨false, ks, [], cs⟩ F) w' := by
  obtain ⟨p, c, rfl, hc, _⟩ := hl.shape
  obtain ⟨lb, lo, rfl, hrd⟩ := hl.at_ (by omega)
  have hb0 := Go.Sl.bytesV_get l 0 (by omega)
  have hb1 := Go.Sl.bytesV_get l 1 (by omega)
  have hlo := hl.subLo (a := 2) (by omega)
  have hb1' : byteAt l 1 = (((l.getD 1 0).toNat : Nat) : Int) := by
    unfold byteAt; rw [List.getD_eq_getElem?_getD]
  rw [hb1'] at hb1
  have hcnt := (l.getD 1 0).toNat_lt
  generalize hres : innerB l = res
  unfold innerB at hres
  generalize (l.getD 1 0).toNat = cnt at *
  refine Ret.enter [(true, .slice (some ⟨lb, lo, none⟩) l.length c)] _ Tryz.func117 rfl Tryz.ntmps117 rfl ?_
  refine zz ?_
  refine MC.does true (does_alloc hs) rfl ?_; rintro _ w ⟨b2, rfl, hs⟩
  refine zz ?_
  refine MC.la true (la_load1_rd hrd hs (j := Int.toNat 0 * 1) rfl hb0) rfl ?_
  refine zz ?_
  rw [decide_eq_false hb]
  refine MC.pure (f := true) (po_build (ls := [(0, [bool false])]) (out := [bool false, .slice none 0 0, .slice none 0 0, .slice none 0 0]) rfl rfl ⟨⟨_, rfl, by simp⟩, trivial⟩ rfl) rfl ?_
  refine MC.does true (does_alloc hs) rfl ?_; rintro _ w ⟨bn, rfl, hs⟩
  refine zz ?_
  refine MC.does true (does_store (vs := [bool false, .slice none 0 0, .slice none 0 0, .slice none 0 0]) hs rfl rfl rfl rfl (all1 rfl) (by simp)) rfl ?_; intro _ w hs; rw [splice_all (by rfl)] at hs
  refine zz ?_
  refine MC.pure (f := true) (po_slice_lo (a := 2) rfl rfl (by omega)) rfl ?_
  refine zz ?_
  refine MC.does true (does_alloc hs) rfl ?_; rintro _ w ⟨bp, rfl, hs⟩
  refine zz ?_
  refine MC.does true (does_store1 hs rfl rfl rfl (by first | decide | (simp; done) | (simp; omega))) rfl ?_; intro _ w hs
  refine zz ?_
  generalize Sl.cutAt (some ⟨lb, lo, none⟩) 2 c 1 = p0 at *
  rw [show l.length - 2 = (l.drop 2).length by simp] at *
  have hl2 : (l.drop 2).length ≤ 256 := by rw [List.length_drop]; omega
  generalize l.drop 2 = l2 at *
  have hp := nkid_spec hs hlo (by omega)
  refine MC.does true (does_call rfl (hp)) rfl ?_
  intro v w hv
  cases h0 : kidB l2 with
  | none =>
    rw [h0] at hv hres
    obtain ⟨vl', rfl, hs⟩ := hv
    dsimp only [] at hres
    refine zz ?_
    refine MC.la true (la_loadV (vs := [bool false, .slice none 0 0, .slice none 0 0, .slice none 0 0]) hs rfl rfl rfl rfl) rfl ?_
    refine MC.does true (does_store (vs := [bool false, .slice none 0 0, .slice none 0 0, .slice none 0 0]) hs rfl rfl rfl rfl (all1 rfl) (by simp)) rfl ?_; intro _ w hs; rw [splice_all (by rfl)] at hs
    refine zz ?_
    refine MC.retR (vs := [.agg [bool false, .slice none 0 0, .slice none 0 0, .slice none 0 0].toArray, bool false]) ⟨⟨⟨b2, 0, none⟩, rfl, load_cellA hs rfl⟩, rfl, trivial⟩ ?_
    rw [← hres]
    exact ⟨[bool false, .slice none 0 0, .slice none 0 0, .slice none 0 0], rfl, rfl, by simp [Value.oneCell'], hs.pickF 3 [] rfl rfl⟩
  | some x =>
    obtain ⟨k0, r0⟩ := x
    rw [h0] at hv hres
    dsimp only [] at hres
    obtain ⟨hk0, hr0l, vl0, rfl, hr0, hs⟩ := hv
    refine zz ?_
    refine MC.does true (does_buildL hs rfl rfl rfl (all1 rfl) rfl) rfl ?_; rintro _ w ⟨bt0, rfl, hs⟩
    have hs := (hs.sl_nil 3 1)
    have hs := hs.pickF 5 [1, 0, 2, 3, 4] rfl rfl
    refine MC.does true (does_append hs rfl rfl (src_at rfl (all1 rfl)) (by omega) (by omega)) rfl ?_
    intro vi w hs
    obtain ⟨_, qi, ci, rfl, hci⟩ := (hs.pickF 4 [1, 0, 2, 3] rfl rfl).sl_len
    refine zz ?_
    refine MC.does true (does_store1 hs rfl rfl rfl (by first | decide | (simp; done) | (simp; omega))) rfl ?_; intro _ w hs
    refine zz ?_
    refine MC.la true (la_load1_rd hrd hs (j := Int.toNat 1 * 1) rfl hb1) rfl ?_
    refine zz ?_
    have hs := hs.tail
    have hs := bods_nil (t := 5) (hs.sl_nil 44 1)
    have hs := hs.pickF 6 [3, 4, 1, 2, 0, 5] rfl rfl
    refine MC.loop (σ := Pz) (fun x => [(2, true, ptr b2), (4, true, ptr bn), (5, true, ptr bp), (39, true, .int .u8 ((cnt : Nat) : Int)), (40, true, .int .u8 ((x.i : Nat) : Int))])
      (fun x w => x.i ≤ cnt ∧ parseI (cnt - x.i) x.ks x.cs x.r = res ∧ x.ks.length = x.i ∧ x.cs.length = x.i + 1 ∧ (∀ k ∈ x.ks, k.length ≤ 255) ∧ (∀ k ∈ x.cs, k < 65536) ∧ x.r.length ≤ 256 ∧ RdS F 1 x.vl x.r.length (bytesV x.r) ∧ NdIn x.pool x.y ⟨false, x.ks, [], x.cs⟩ ∧
        Sat (blk bp [x.vl] 44 :: blk bn [bool false, x.y.sk, .slice none 0 0, x.y.si] 97 :: sl x.y.sk 44 1 x.ks.length x.y.rk :: sl x.y.si 3 1 x.cs.length (bufV x.cs) :: bods 5 x.pool :: blk b2 [bool false, .slice none 0 0, .slice none 0 0, .slice none 0 0] 97 :: F) w)
      (fun x => cnt - x.i) ⟨0, [], [], [k0], r0, vl0, ⟨.slice none 0 0, .slice none 0 0, .slice qi (0 + 1) ci, [], []⟩, []⟩ (by repeat (first | exact trivial | refine ⟨rfl, ?_⟩)) ⟨Nat.zero_le _, hres, rfl, rfl, fun k h => (by cases h), fun k h => (by rw [List.mem_singleton.1 h]; exact hk0), by show r0.length ≤ 256; omega, hr0, ⟨rfl, fun i k h => (by cases h), rfl, fun i k h => (by cases h)⟩, hs⟩ ?_
    clear hs
    rintro ⟨i, ks, vs, cs, r, vl, ⟨sk, sv, si, rk, rv⟩, pool⟩ w ⟨hi, hpl, hkl, hcl, hk255, hcs, hrl, hr, hin, hs⟩
    dsimp only [] at hi hpl hkl hcl hk255 hcs hrl hr hin hs ⊢
    obtain ⟨_, qk, ck, rfl, hck⟩ := (hs.pickF 4 [2, 0, 1, 3] rfl rfl).sl_len
    obtain ⟨_, qi, ci, rfl, hci⟩ := (hs.pickF 4 [3, 0, 1, 2] rfl rfl).sl_len
    have hrv : rv = [] := List.eq_nil_of_length_eq_zero hin.vl
    subst hrv
    rcases Nat.lt_or_ge i cnt with hlt | hge
    · have hp := npiece_spec hs hr (by omega)
      refine zz ?_
      refine MC.does true (does_call rfl (hp)) rfl ?_
      intro v w hv
      rw [show cnt - i = (cnt - (i + 1)) + 1 by omega] at hpl
      unfold parseI at hpl
      cases h1 : pieceB r with
      | none =>
        rw [h1] at hv hpl
        obtain ⟨vl', rfl, hs⟩ := hv
        refine zz ?_
        refine MC.la true (la_loadV (vs := [bool false, .slice qk ks.length ck, .slice none 0 0, .slice qi cs.length ci]) hs rfl rfl rfl rfl) rfl ?_
        refine MC.does true (does_store (vs := [bool false, .slice qk ks.length ck, .slice none 0 0, .slice qi cs.length ci]) hs rfl rfl rfl rfl (all1 rfl) (by simp)) rfl ?_; intro _ w hs; rw [splice_all (by rfl)] at hs
        refine zz ?_
        refine MC.retR (vs := [.agg [bool false, .slice qk ks.length ck, .slice none 0 0, .slice qi cs.length ci].toArray, bool false]) ⟨⟨⟨b2, 0, none⟩, rfl, load_cellA hs rfl⟩, rfl, trivial⟩ ?_
        rw [← hpl]
        exact ⟨[bool false, .slice qk ks.length ck, .slice none 0 0, .slice qi cs.length ci], rfl, rfl, by simp [Value.oneCell'], hs.pickF 6 [] rfl rfl⟩
      | some x =>
        obtain ⟨k, r1⟩ := x
        rw [h1] at hv hpl
        obtain ⟨hk1, hr1, va, vl1, rfl, hrd1, hs⟩ := hv
        obtain ⟨_, qa, ca, rfl, _⟩ := hs.sl_len
        refine zz ?_
        refine MC.does true (does_buildL hs rfl rfl rfl (all1 rfl) rfl) rfl ?_; rintro _ w ⟨bt, rfl, hs⟩
        refine zz ?_
        refine MC.does true (does_append hs rfl rfl (src_at rfl (all1 rfl)) (by omega) (by omega)) rfl ?_
        intro vk w hs
        have hs := (bods_add rfl ((hs.tail).pickF 6 [0, 5, 1, 2, 3, 4] rfl rfl)).pickF 5 [1, 2, 3, 4, 0] rfl rfl
        obtain ⟨_, qk2, ck2, rfl, hck2⟩ := (hs.pickF 4 [2, 0, 1, 3] rfl rfl).sl_len
        refine zz ?_
        refine MC.does true (does_store1 hs rfl rfl rfl (by first | decide | (simp; done) | (simp; omega))) rfl ?_; intro _ w hs
        refine zz ?_
        have hp := nkid_spec hs hrd1 (by omega)
        refine MC.does true (does_call rfl (hp)) rfl ?_
        intro v w hv
        dsimp only [] at hpl
        cases h2 : kidB r1 with
        | none =>
          rw [h2] at hv hpl
          obtain ⟨vl', rfl, hs⟩ := hv
          refine zz ?_
          refine MC.la true (la_loadV (vs := [bool false, .slice qk2 (ks.length + 1) ck2, .slice none 0 0, .slice qi cs.length ci]) hs rfl rfl rfl rfl) rfl ?_
          refine MC.does true (does_store (vs := [bool false, .slice qk2 (ks.length + 1) ck2, .slice none 0 0, .slice qi cs.length ci]) hs rfl rfl rfl rfl (all1 rfl) (by simp)) rfl ?_; intro _ w hs; rw [splice_all (by rfl)] at hs
          refine zz ?_
          refine MC.retR (vs := [.agg [bool false, .slice qk2 (ks.length + 1) ck2, .slice none 0 0, .slice qi cs.length ci].toArray, bool false]) ⟨⟨⟨b2, 0, none⟩, rfl, load_cellA hs rfl⟩, rfl, trivial⟩ ?_
          rw [← hpl]
          exact ⟨[bool false, .slice qk2 (ks.length + 1) ck2, .slice none 0 0, .slice qi cs.length ci], rfl, rfl, by simp [Value.oneCell'], hs.pickF 6 [] rfl rfl⟩
        | some x =>
          obtain ⟨c2, r2⟩ := x
          rw [h2] at hv hpl
          dsimp only [] at hpl
          obtain ⟨hc2, hr2, vl2, rfl, hrd2, hs⟩ := hv
          refine zz ?_
          refine MC.does true (does_buildL hs rfl rfl rfl (all1 rfl) rfl) rfl ?_; rintro _ w ⟨bt2, rfl, hs⟩
          refine zz ?_
          refine MC.does true (does_append hs rfl rfl (src_at rfl (all1 rfl)) (by omega) (by omega)) rfl ?_
          intro vv w hs
          have hs := hs.tail
          obtain ⟨_, qv2, cv2, rfl, hcv2⟩ := (hs.pickF 4 [3, 0, 1, 2] rfl rfl).sl_len
          refine zz ?_
          refine MC.does true (does_store1 hs rfl rfl rfl (by first | decide | (simp; done) | (simp; omega))) rfl ?_; intro _ w hs
          refine zz ?_
          have ek : ks.length + 1 = (ks ++ [k]).length := by simp
          have ev : cs.length + 1 = (cs ++ [c2]).length := by simp
          have ec : bufV cs ++ [int ((c2 : Nat) : Int)] = bufV (cs ++ [c2]) := by simp [bufV]
          rw [ek, ev, ec] at hs
          have e1 : IntKind.u8.wrap (((i : Nat) : Int) + 1) = (((i + 1 : Nat)) : Int) := by rw [wrap_u8]; omega
          rw [e1]
          refine MC.again ⟨i + 1, ks ++ [k], [], cs ++ [c2], r2, vl2, ⟨.slice qk2 (ks ++ [k]).length ck2, .slice none 0 0, .slice qv2 (cs ++ [c2]).length cv2, rk ++ [Value.slice qa k.length ca], []⟩, pool ++ [(Value.slice qa k.length ca, k)]⟩ (by repeat (first | exact trivial | refine ⟨rfl, ?_⟩)) ⟨hlt, hpl, by simp [hkl], by simp [hcl], fun x hx => ?_, fun x hx => ?_, by show r2.length ≤ 256; omega, hrd2, ⟨by simpa using hin.kl, pool_snoc hin.kl hin.key, rfl, fun i k h => (by cases h)⟩, hs⟩ (by show cnt - (i + 1) < cnt - i; omega)
          · rcases List.mem_append.1 hx with h | h
            · exact hk255 x h
            · rw [List.mem_singleton.1 h]; exact hk1
          · rcases List.mem_append.1 hx with h | h
            · exact hcs x h
            · rw [List.mem_singleton.1 h]; exact hc2
    · obtain rfl : i = cnt := by omega
      refine zz ?_
      refine MC.la true (la_loadV (vs := [bool false, .slice qk ks.length ck, .slice none 0 0, .slice qi cs.length ci]) hs rfl rfl rfl rfl) rfl ?_
      refine MC.does true (does_store (vs := [bool false, .slice qk ks.length ck, .slice none 0 0, .slice qi cs.length ci]) hs rfl rfl rfl rfl (all1 rfl) (by simp)) rfl ?_; intro _ w hs; rw [splice_all (by rfl)] at hs
      refine zz ?_
      refine MC.retR (vs := [.agg [bool false, .slice qk ks.length ck, .slice none 0 0, .slice qi cs.length ci].toArray, bool true]) ⟨⟨⟨b2, 0, none⟩, rfl, load_cellA hs rfl⟩, rfl, trivial⟩ ?_
      rw [← hpl, Nat.sub_self]
      unfold parseI
      refine ⟨⟨.slice qk ks.length ck, .slice none 0 0, .slice qi cs.length ci, rk, []⟩, pool, ⟨hin.kl, hin.key, hin.vl, hin.val⟩, ⟨by show ks.length ≤ 600; omega, Nat.zero_le _, by show cs.length ≤ 600; omega, hk255, fun k h => (by cases h), hcs⟩, rfl, ?_⟩
      have hs := hs.pickF 6 [4, 2, 3] rfl rfl
      exact (hs.sl_nil 44 1).pickF 4 [1, 2, 0, 3] rfl rfl
theorem nparse_spec {F : List Assn} {vl : Value} {l : Bs} {w : World} (hs : Sat F w) (hl : RdS F 1 vl l.length (bytesV l)) (h256 : l.length = 256) :
    Ret Tryz.prog 117 [vl] w fun v w' => match parseN l with
      | none => ∃ u : List Value, v = .tuple #[.agg u.toArray, bool false] ∧ u.length = 4 ∧ (∀ x ∈ u, x.oneCell' = true) ∧ Sat F w'
      | some n => ∃ y pool, NdIn pool y n ∧ Few n ∧ v = .tuple #[y.val n, bool true] ∧ Sat (ndP pool y n F) w' := by
  have hb0 : byteAt l 0 = (((l.getD 0 0).toNat : Nat) : Int) := by
    unfold byteAt; rw [List.getD_eq_getElem?_getD]
  unfold parseN
  by_cases h1 : l.getD 0 0 = 1
  · rw [if_pos h1]
    refine (nparse_leaf hs hl h256 (by rw [hb0, h1]; rfl)).mono fun v w' h => ?_
    cases hp : parseL (l.getD 1 0).toNat [] [] (l.drop 2) with
    | none => rw [hp] at h; exact h
    | some x => rw [hp] at h; exact h
  · rw [if_neg h1]
    refine (nparse_inner hs hl h256 (fun h => h1 (UInt8.toNat_inj.1 (by rw [hb0] at h; have : (1 : UInt8).toNat = 1 := rfl; omega)))).mono fun v w' h => ?_
    unfold innerB at h
    cases hk : kidB (l.drop 2) with
    | none => rw [hk] at h; exact h
    | some x =>
      rw [hk] at h
      dsimp only [] at h ⊢
      cases hp : parseI (l.getD 1 0).toNat [] [x.1] x.2 with
      | none => rw [hp] at h; exact h
      | some x => rw [hp] at h; exact h
theorem nread_spec {F : List Assn} {vl : Value} {l : Bs} {w : World} (hs : Sat F w) (hl : RdS F 1 vl l.length (bytesV l)) :
    Ret Tryz.prog 100 [vl] w fun v w' => match readN l with
      | none => v = .tuple #[.agg [bool false, .slice none 0 0, .slice none 0 0, .slice none 0 0].toArray, int 200] ∧ Sat F w'
      | some n => ∃ y pool, NdIn pool y n ∧ Few n ∧ v = .tuple #[y.val n, int 0] ∧ Sat (ndP pool y n F) w' := by
  obtain ⟨p, c, rfl, hc, _⟩ := hl.shape
  unfold readN
  refine Ret.enter [(true, .slice p l.length c)] _ Tryz.func100 rfl Tryz.ntmps100 rfl ?_
  refine zz ?_
  refine MC.does true (does_alloc hs) rfl ?_; rintro _ w ⟨b2, rfl, hs⟩
  by_cases h256 : l.length = 256
  · rw [if_pos h256]
    have hp := nparse_spec hs hl.up h256
    refine zz ?_
    refine MC.does true (does_call rfl (hp)) rfl ?_
    intro v w hv
    cases hpn : parseN l with
    | none =>
      rw [hpn] at hv
      obtain ⟨u, rfl, hu, hu1, hs⟩ := hv
      refine zz ?_
      refine MC.does true (does_alloc hs) rfl ?_; rintro _ w ⟨b4, rfl, hs⟩
      refine zz ?_
      refine MC.does true (does_store (vs := u) hs rfl rfl rfl hu hu1 (by simp)) rfl ?_; intro _ w hs
      rw [splice_all (by rw [hu]; rfl)] at hs
      refine zz ?_
      refine MC.pure (f := true) (po_build (ls := []) (out := [bool false, .slice none 0 0, .slice none 0 0, .slice none 0 0]) rfl rfl trivial rfl) rfl ?_
      refine MC.does true (does_store (vs := [bool false, .slice none 0 0, .slice none 0 0, .slice none 0 0]) hs rfl rfl rfl rfl (all1 rfl) (by simp)) rfl ?_; intro _ w hs; rw [splice_all (by rfl)] at hs
      refine zz ?_
      refine MC.retR (vs := [.agg [bool false, .slice none 0 0, .slice none 0 0, .slice none 0 0].toArray, int 200]) ⟨⟨⟨b2, 0, none⟩, rfl, load_cellA hs rfl⟩, rfl, trivial⟩ ?_
      exact ⟨rfl, hs.pickF 2 [] rfl rfl⟩
    | some n =>
      rw [hpn] at hv
      obtain ⟨y, pool, hin, hfew, rfl, hs⟩ := hv
      dsimp only []
      have hkd : ∀ k ∈ n.kids, k ≤ 100000 := fun k hk => by have := hfew.c k hk; omega
      obtain ⟨sk, sv, si, rk, rv⟩ := y
      obtain ⟨_, qk, ck, rfl, _⟩ := (hs.pickF 4 [1, 0, 2, 3] rfl rfl).sl_len
      obtain ⟨_, qv, cv, rfl, _⟩ := (hs.pickF 4 [2, 0, 1, 3] rfl rfl).sl_len
      obtain ⟨_, qi, ci, rfl, _⟩ := (hs.pickF 4 [3, 0, 1, 2] rfl rfl).sl_len
      have hs : Sat (ndP pool ⟨.slice qk n.keys.length ck, .slice qv n.vals.length cv, .slice qi n.kids.length ci, rk, rv⟩ n (blk b2 [bool false, .slice none 0 0, .slice none 0 0, .slice none 0 0] 97 :: F)) w := hs
      have hrn := hin.read hfew hs
      refine zz ?_
      refine MC.does true (does_alloc hs) rfl ?_; rintro _ w ⟨b4, rfl, hs⟩
      refine zz ?_
      refine MC.does true (does_store (vs := [bool n.leaf, .slice qk n.keys.length ck, .slice qv n.vals.length cv, .slice qi n.kids.length ci]) hs rfl rfl rfl rfl (all1 rfl) (by simp)) rfl ?_; intro _ w hs; rw [splice_all (by rfl)] at hs
      refine zz ?_
      refine MC.la true (la_loadV (vs := [bool n.leaf, .slice qk n.keys.length ck, .slice qv n.vals.length cv, .slice qi n.kids.length ci]) hs rfl rfl rfl rfl) rfl ?_
      refine zz ?_
      have hcall := right_spec hs hrn.up hkd
      refine MC.does true (does_call rfl (hcall)) rfl ?_
      rintro _ w ⟨rfl, hs⟩
      by_cases hri : n.right
      · rw [decide_eq_true hri]
        refine zz ?_
        refine MC.la true (la_loadV (vs := [bool n.leaf, .slice qk n.keys.length ck, .slice qv n.vals.length cv, .slice qi n.kids.length ci]) hs rfl rfl rfl rfl) rfl ?_
        refine zz ?_
        have hcall := page_spec hs hrn.up hri
        refine MC.does true (does_call rfl (hcall)) rfl ?_
        intro vb w hs
        have hpl := page_len hri
        rw [← hpl] at hs
        have heq := equal_spec hs (RdS.of_sl hs) hl.up
        obtain ⟨_, qp, cp, rfl, _⟩ := hs.sl_len
        refine zz ?_
        refine MC.does true (does_call rfl (heq)) rfl ?_
        rintro _ w ⟨rfl, rfl⟩
        by_cases hpg : n.page = l
        · rw [decide_eq_true hpg, if_pos ⟨hri, hpg⟩]
          refine zz ?_
          refine MC.la true (la_loadV (vs := [bool n.leaf, .slice qk n.keys.length ck, .slice qv n.vals.length cv, .slice qi n.kids.length ci]) hs rfl rfl rfl rfl) rfl ?_
          refine MC.does true (does_store (vs := [bool n.leaf, .slice qk n.keys.length ck, .slice qv n.vals.length cv, .slice qi n.kids.length ci]) hs rfl rfl rfl rfl (all1 rfl) (by simp)) rfl ?_; intro _ w hs; rw [splice_all (by rfl)] at hs
          refine zz ?_
          refine MC.retR (vs := [.agg [bool n.leaf, .slice qk n.keys.length ck, .slice qv n.vals.length cv, .slice qi n.kids.length ci].toArray, int 0]) ⟨⟨⟨b2, 0, none⟩, rfl, load_cellA hs rfl⟩, rfl, trivial⟩ ?_
          exact ⟨⟨.slice qk n.keys.length ck, .slice qv n.vals.length cv, .slice qi n.kids.length ci, rk, rv⟩, pool, hin, hfew, rfl, hs.pickF 7 [2, 3, 4, 5] rfl rfl⟩
        · rw [decide_eq_false hpg, if_neg (fun h => hpg h.2)]
          refine zz ?_
          refine MC.pure (f := true) (po_build (ls := []) (out := [bool false, .slice none 0 0, .slice none 0 0, .slice none 0 0]) rfl rfl trivial rfl) rfl ?_
          refine MC.does true (does_store (vs := [bool false, .slice none 0 0, .slice none 0 0, .slice none 0 0]) hs rfl rfl rfl rfl (all1 rfl) (by simp)) rfl ?_; intro _ w hs; rw [splice_all (by rfl)] at hs
          refine zz ?_
          refine MC.retR (vs := [.agg [bool false, .slice none 0 0, .slice none 0 0, .slice none 0 0].toArray, int 200]) ⟨⟨⟨b2, 0, none⟩, rfl, load_cellA hs rfl⟩, rfl, trivial⟩ ?_
          exact ⟨rfl, hs.pickF 7 [] rfl rfl⟩
      · rw [decide_eq_false hri, if_neg (fun h => hri h.1)]
        refine zz ?_
        refine MC.pure (f := true) (po_build (ls := []) (out := [bool false, .slice none 0 0, .slice none 0 0, .slice none 0 0]) rfl rfl trivial rfl) rfl ?_
        refine MC.does true (does_store (vs := [bool false, .slice none 0 0, .slice none 0 0, .slice none 0 0]) hs rfl rfl rfl rfl (all1 rfl) (by simp)) rfl ?_; intro _ w hs; rw [splice_all (by rfl)] at hs
        refine zz ?_
        refine MC.retR (vs := [.agg [bool false, .slice none 0 0, .slice none 0 0, .slice none 0 0].toArray, int 200]) ⟨⟨⟨b2, 0, none⟩, rfl, load_cellA hs rfl⟩, rfl, trivial⟩ ?_
        exact ⟨rfl, hs.pickF 6 [] rfl rfl⟩
  · rw [if_neg h256]
    refine zz ?_
    refine MC.pure (f := true) (po_build (ls := []) (out := [bool false, .slice none 0 0, .slice none 0 0, .slice none 0 0]) rfl rfl trivial rfl) rfl ?_
    refine MC.does true (does_store (vs := [bool false, .slice none 0 0, .slice none 0 0, .slice none 0 0]) hs rfl rfl rfl rfl (all1 rfl) (by simp)) rfl ?_; intro _ w hs; rw [splice_all (by rfl)] at hs
    refine zz ?_
    refine MC.retR (vs := [.agg [bool false, .slice none 0 0, .slice none 0 0, .slice none 0 0].toArray, int 200]) ⟨⟨⟨b2, 0, none⟩, rfl, load_cellA hs rfl⟩, rfl, trivial⟩ ?_
    exact ⟨rfl, hs.tail⟩
end Go.Proofs.YtjlofdodiaklaaaGreat
