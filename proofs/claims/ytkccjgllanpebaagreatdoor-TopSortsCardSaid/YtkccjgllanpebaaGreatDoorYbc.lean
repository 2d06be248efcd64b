/-
  Reading a key: digits | Nodes: Split
-/
import Derived.Test.YtkccjgllanpebaaGreatDoorYbb
import Derived.Test.YtkccjgllanpebaaGreatDoorYah
set_option maxHeartbeats 1000000
set_option linter.unusedVariables false
set_option linter.unusedSimpArgs false
namespace Go.Proofs.YtkccjgllanpebaaGreatDoor
open Go Go.Sl Go.Tr Go.Kv Go.Ms
attribute [local irreducible] LooksAt
theorem valD_snoc (d : Bs) (c : UInt8) : valD (d ++ [c]) = valD d * 10 + (c.toNat - 48) := by unfold valD; rw [List.foldl_append]; rfl
theorem valD_take {d : Bs} {i : Nat} (h : i < d.length) : valD (d.take (i + 1)) = valD (d.take i) * 10 + (d[i].toNat - 48) := by rw [List.take_succ_eq_append_getElem h, valD_snoc]
theorem valD_lt {d : Bs} (hd : ∀ c ∈ d, 48 ≤ c.toNat ∧ c.toNat ≤ 57) : ∀ {i : Nat}, i ≤ d.length → valD (d.take i) < 10 ^ i
  | 0, _ => by show 0 < 1; omega
  | i + 1, h => by
    rw [valD_take (by omega), Nat.pow_succ]
    have := valD_lt hd (i := i) (by omega)
    have := hd d[i] (List.getElem_mem _)
    omega
theorem dec_first {u : Nat} (h : 0 < u) : ∀ c r, Lib.decDigits u = c :: r → c.toNat ≠ 48 := by
  induction u using Nat.strongRecOn with
  | _ u ih =>
    intro c r e
    rw [Lib.decDigits] at e
    split at e
    · cases e
      rw [nat_of_u8 (by omega)]; omega
    · have hl := Lib.decDigits_length (u / 10)
      have hp := Lib.nDigits_pos (u / 10)
      cases hd : Lib.decDigits (u / 10) with
      | nil => rw [hd, List.length_nil] at hl; omega
      | cons a t =>
        rw [hd, List.cons_append] at e
        cases e
        exact ih (u / 10) (by omega) (by omega) _ _ hd
theorem turn_turn (neg : Bool) (x : UInt8) : turnB neg (turnB neg x) = x := by
  cases neg with
  | false => rfl
  | true =>
    refine UInt8.toNat_inj.1 ?_
    show (255 - (255 - x)).toNat = x.toNat
    have := x.toNat_lt
    rw [UInt8.toNat_sub, UInt8.toNat_sub]
    show (2 ^ 8 - (2 ^ 8 - x.toNat + 255) % 2 ^ 8 + 255) % 2 ^ 8 = _
    omega
theorem xorB (neg : Bool) (x : UInt8) : ((((turnB neg x).toNat : Nat) : Int)).toNat ^^^ (if neg = true then (255 : Int) else 0).toNat = x.toNat := by
  rw [Nat.xor_comm, xorT, turn_turn]
set_option maxHeartbeats 4000000 in
theorem rdigits_spec {F : List Assn} {br n c i : Nat} {q : Option Addr} {b pre rest : Bs} {m e : Int} {w : World} (hs : Sat (rdr br q n c i :: F) w) (hT : Tabs F) (hb : RdS F 1 (.slice q n c) n (bytesV b)) (he : b = pre ++ (numK m e ++ rest)) (hm : I64 m) (hNo : okN m e) (hi : pre.length = i) (hn : b.length = n) (hN : n ≤ 100000) :
    Ret Tryz.prog 78 [ptr br] w fun u w' => u = .agg #[int m, int e] ∧ Sat (rdr br q n c (i + (numK m e).length) :: F) w' := by
  refine Ret.enter [(true, ptr br)] _ Tryz.func78 rfl Tryz.ntmps78 rfl ?_
  refine zz ?_
  refine MC.does true (does_alloc hs) rfl ?_; rintro _ w ⟨b2, rfl, hs⟩
  have hs := hs.pickF 2 [1, 0] rfl rfl
  by_cases h0 : m = 0
  · have e1 : numK m e = [2] := by unfold numK; rw [if_pos h0]
    have e0 := hNo.1 h0
    subst h0 e0
    rw [e1] at he ⊢
    refine zz ?_
    refine zc rfl (next_spec hs hb.up (x := 2) (rest := rest) (by rw [he]; rfl) hi hn hN) ?_
    rintro _ w ⟨rfl, hs⟩
    refine zz ?_
    refine MC.pure (f := true) (po_build (ls := []) (out := [int 0, int 0]) rfl rfl trivial rfl) rfl ?_
    refine zz ?_
    refine MC.does true (does_store (vs := [int 0, int 0]) hs rfl rfl rfl rfl (all1 rfl) (by simp)) rfl ?_; intro _ w hs; rw [splice_all (by rfl)] at hs
    refine zz ?_
    exact MC.retC rfl hs rfl (vs := [int 0, int 0]) (by rfl) (by rfl) (by rfl) ⟨rfl, hs.pickF 2 [0] rfl rfl⟩
  · obtain ⟨o1, o2, o3, o4⟩ := hNo.2 h0
    have hdl := dec_len o1
    have hdg := digit_of (sizeN m)
    have hdf := dec_first (u := sizeN m) (by unfold sizeN; omega)
    have hdv := valD_dec (sizeN m)
    obtain ⟨neg, hneg⟩ : ∃ neg, neg = decide (m < 0) := ⟨_, rfl⟩
    have e1 : numK m e = digK neg (Lib.decDigits (sizeN m)) e := by unfold numK; rw [if_neg h0, hneg]
    generalize hd : Lib.decDigits (sizeN m) = d at hdl hdg hdf hdv e1
    have hpt := ptB_nat hdl ⟨o3, o4⟩
    obtain ⟨tv, htv⟩ : ∃ tv : Int, tv = if neg = true then 255 else 0 := ⟨_, rfl⟩
    have htb : 0 ≤ tv ∧ tv ≤ 255 := by rw [htv]; split <;> omega
    have hxb : ∀ x : UInt8, ((((turnB neg x).toNat : Nat) : Int)).toNat ^^^ tv.toNat = x.toNat := fun x => by rw [htv]; exact xorB neg x
    have e2 : digK neg d e = (if neg then 1 else 3) :: turnB neg (ptB d e) :: ((d.map fun c => turnB neg (c - 47)) ++ [turnB neg 0]) := by unfold digK ptB; simp
    rw [e1, e2] at he ⊢
    refine zz ?_
    refine zc rfl (next_spec hs hb.up (x := if neg then 1 else 3) (rest := turnB neg (ptB d e) :: ((d.map fun c => turnB neg (c - 47)) ++ [turnB neg 0]) ++ rest) (by rw [he]; rfl) hi hn hN) ?_
    rintro _ w ⟨rfl, hs⟩
    refine MC.run1 tab 3 rfl rfl True.intro ?_
    refine MC.cutAtS (σ := Unit) 1 (fun _ => [(0, true, ptr br), (2, true, ptr b2), (3, true, .int .u8 tv), (4, true, .int .u8 (if neg = true then 1 else 3))]) (fun _ w => Sat (rdr br q n c (i + 1) :: blk b2 [int 0, int 0] 29 :: F) w) rfl ?_ ?_
    rotate_left
    · (try dsimp only [List.drop_succ_cons, List.drop_zero, List.take_succ_cons, List.take_zero, List.cons_append, List.nil_append])
      cases neg with
      | true => subst htv; refine zz ?_; exact MC.meetS () zi hs
      | false => subst htv; refine zz ?_; exact MC.meetS () zi hs
    clear hs
    rintro _ w hs
    dsimp only [List.drop] at hs ⊢
    refine zz ?_
    refine zc rfl (next_spec hs hb.up (pre := pre ++ [if neg then 1 else 3]) (x := turnB neg (ptB d e)) (rest := ((d.map fun c => turnB neg (c - 47)) ++ [turnB neg 0]) ++ rest) (by rw [he]; simp) (by rw [List.length_append, List.length_singleton]; omega) hn hN) ?_
    rintro _ w ⟨rfl, hs⟩
    refine zz ?_
    have hpt2 := (ptB d e).toNat_lt
    have hpt3 := (turnB neg (ptB d e)).toNat_lt
    refine MC.run1 tab 1000 rfl rfl (by simp only [Conds, rng, hxb, List.cons_append, List.nil_append]; omega) ?_
    rw [hxb, show (((ptB d e).toNat : Nat) : Int) - 100 = ((d.length : Nat) : Int) + e by omega]
    refine MC.cutAtS (σ := Unit) 2 (fun _ => [(0, true, ptr br), (2, true, ptr b2), (4, true, .int .u8 (if neg = true then 1 else 3)), (5, true, int (((d.length : Nat) : Int) + e)), (6, true, .int .i64 ((sizeN m : Nat) : Int)), (7, true, int ((d.length : Nat) : Int))])
      (fun _ w => Sat (rdr br q n c (i + (2 + d.length + 1)) :: blk b2 [int 0, int 0] 29 :: F) w) rfl ?_ ?_
    rotate_left
    · (try dsimp only [List.drop_succ_cons, List.drop_zero, List.take_succ_cons, List.take_zero, List.cons_append, List.nil_append])
      refine MC.loop (σ := Nat) (fun j => [(0, true, ptr br), (2, true, ptr b2), (3, true, .int .u8 tv), (4, true, .int .u8 (if neg = true then 1 else 3)), (5, true, int (((d.length : Nat) : Int) + e)), (6, true, .int .i64 ((valD (d.take j) : Nat) : Int)), (7, true, int ((j : Nat) : Int))])
        (fun j w => j ≤ d.length ∧ Sat (rdr br q n c (i + (2 + j)) :: blk b2 [int 0, int 0] 29 :: F) w) (fun j => d.length - j) 0 zi ⟨Nat.zero_le _, hs⟩ ?_
      clear hs
      rintro j w ⟨hj, hs⟩
      dsimp only [] at hj hs ⊢
      rcases Nat.lt_or_ge j d.length with hlt | hge
      · obtain ⟨x, hx⟩ : ∃ x, d[j] = x := ⟨_, rfl⟩
        have hx48 := hdg d[j] (List.getElem_mem hlt)
        have hvt := valD_take hlt
        have hvl := valD_lt hdg (i := j) hj
        have hpw : 10 ^ j ≤ 100000000000000000 := Nat.le_trans (Nat.pow_le_pow_right (by omega) (show j ≤ 17 by omega)) (by decide)
        rw [hx] at hx48 hvt
        have h47 := sub47 hx48
        have hsp : d.map (fun c => turnB neg (c - 47)) = (d.take j).map (fun c => turnB neg (c - 47)) ++ turnB neg (x - 47) :: (d.drop (j + 1)).map (fun c => turnB neg (c - 47)) := by
          rw [← hx, ← List.map_cons (f := fun c => turnB neg (c - 47)), ← List.drop_eq_getElem_cons hlt, ← List.map_append, List.take_append_drop]
        have hx3 := (turnB neg (x - 47)).toNat_lt
        have hfst : j = 0 → x.toNat ≠ 48 := fun h => by
          subst h
          cases hdd : d with
          | nil => rw [hdd] at hlt; simp at hlt
          | cons c r =>
            have := hdf c r hdd
            simp only [hdd, List.getElem_cons_zero] at hx
            rw [← hx]; exact this
        refine zz ?_
        refine zc rfl (next_spec hs hb.up (pre := pre ++ [if neg then 1 else 3, turnB neg (ptB d e)] ++ (d.take j).map fun c => turnB neg (c - 47)) (x := turnB neg (x - 47)) (rest := (d.drop (j + 1)).map (fun c => turnB neg (c - 47)) ++ [turnB neg 0] ++ rest) (by rw [he, hsp]; simp) (by simp only [List.length_append, List.length_cons, List.length_nil, List.length_map, List.length_take]; omega) hn hN) ?_
        rintro _ w ⟨rfl, hs⟩
        refine zz ?_
        rw [hxb, h47]
        have hv2 : ((valD (d.take j) : Nat) : Int) * 10 + ((x.toNat - 47 : Nat) : Int) - 1 = ((valD (d.take (j + 1)) : Nat) : Int) := by omega
        rcases Nat.eq_zero_or_pos j with hj0 | hj0
        · have := hfst hj0
          refine zz ?_
          rw [hv2, show ((j : Nat) : Int) + 1 = ((j + 1 : Nat) : Int) by omega]
          exact MC.again (j + 1) zi ⟨hlt, hs⟩ (by show d.length - (j + 1) < d.length - j; omega)
        · refine zz ?_
          rw [hv2, show ((j : Nat) : Int) + 1 = ((j + 1 : Nat) : Int) by omega]
          exact MC.again (j + 1) zi ⟨hlt, hs⟩ (by show d.length - (j + 1) < d.length - j; omega)
      · obtain rfl : j = d.length := by omega
        rw [List.take_length, hdv]
        have hx3 := (turnB neg 0).toNat_lt
        refine zz ?_
        refine zc rfl (next_spec hs hb.up (pre := pre ++ [if neg then 1 else 3, turnB neg (ptB d e)] ++ d.map fun c => turnB neg (c - 47)) (x := turnB neg 0) (rest := rest) (by rw [he]; simp) (by simp only [List.length_append, List.length_cons, List.length_nil, List.length_map]; omega) hn hN) ?_
        rintro _ w ⟨rfl, hs⟩
        refine zz ?_
        rw [hxb]
        refine zz ?_
        exact MC.meetS () zi hs
    · clear hs
      rintro _ w hs
      dsimp only [List.drop] at hs ⊢
      refine MC.run1 tab 1 rfl rfl True.intro ?_
      refine MC.cutAtS (σ := Unit) 1 (fun _ => [(0, true, ptr br), (2, true, ptr b2), (5, true, int (((d.length : Nat) : Int) + e)), (6, true, .int .i64 m), (7, true, int ((d.length : Nat) : Int))])
        (fun _ w => Sat (rdr br q n c (i + (2 + d.length + 1)) :: blk b2 [int 0, int 0] 29 :: F) w) rfl ?_ ?_
      rotate_left
      · (try dsimp only [List.drop_succ_cons, List.drop_zero, List.take_succ_cons, List.take_zero, List.cons_append, List.nil_append])
        cases neg with
        | true =>
          have hm0 : m < 0 := of_decide_eq_true hneg.symm
          have hsz : 0 - ((sizeN m : Nat) : Int) = m := by unfold sizeN; omega
          refine zz ?_
          rw [hsz]
          exact MC.meetS () zi hs
        | false =>
          have hm0 : ¬ m < 0 := of_decide_eq_false hneg.symm
          have hsz : ((sizeN m : Nat) : Int) = m := by unfold sizeN; omega
          rw [hsz]
          refine zz ?_
          exact MC.meetS () zi hs
      clear hs
      rintro _ w hs
      dsimp only [List.drop] at hs ⊢
      refine zz ?_
      rw [show ((d.length : Nat) : Int) + e - ((d.length : Nat) : Int) = e by omega]
      refine MC.pure (f := true) (po_build (ls := [(0, [int m]), (1, [int e])]) (out := [int m, int e]) rfl rfl ⟨⟨_, rfl, by simp⟩, ⟨_, rfl, by simp⟩, trivial⟩ rfl) rfl ?_
      refine zz ?_
      refine MC.does true (does_alloc hs) rfl ?_; rintro _ w ⟨b9, rfl, hs⟩
      refine zz ?_
      refine MC.does true (does_store (vs := [int m, int e]) hs rfl rfl rfl rfl (all1 rfl) (by simp)) rfl ?_; intro _ w hs; rw [splice_all (by rfl)] at hs
      refine zz ?_
      refine MC.la true (la_loadV hs rfl (vs := [int m, int e]) rfl rfl rfl) rfl ?_
      refine zz ?_
      refine zc rfl (nright_spec hs hT.up hm (by unfold I64; omega)) ?_
      rintro _ w ⟨rfl, hs⟩
      rw [num_true hNo]
      refine zz ?_
      trace_state
      refine MC.la true (la_loadV hs rfl (vs := [int m, int e]) rfl rfl rfl) rfl ?_
      refine zz ?_
      refine MC.does true (does_store (vs := [int m, int e]) hs rfl rfl rfl rfl (all1 rfl) (by simp)) rfl ?_; intro _ w hs; rw [splice_all (by rfl)] at hs
      refine zz ?_
      refine MC.retC rfl hs rfl (vs := [int m, int e]) (by rfl) (by rfl) (by rfl) ⟨rfl, ?_⟩
      have el : i + (2 + d.length + 1) = i + ((if neg = true then 1 else 3) :: turnB neg (ptB d e) :: ((d.map fun c => turnB neg (c - 47)) ++ [turnB neg 0])).length := by
        simp only [List.length_cons, List.length_append, List.length_map, List.length_nil]; omega
      rw [← el]
      exact hs.pickF 3 [1] rfl rfl
end Go.Proofs.YtkccjgllanpebaaGreatDoor

namespace Go.Proofs.YtkccjgllanpebaaGreatDoor
open Go Go.Sl Go.Tr
attribute [local irreducible] LooksAt
abbrev ndC (n : Nd) (pk pv pi : Option Addr) (ck cv ci : Nat) : List Value := [bool n.leaf, .slice pk n.keys.length ck, .slice pv n.vals.length cv, .slice pi n.kids.length ci]
theorem weight_spec {F : List Assn} {n : Nd} {pk pv pi : Option Addr} {ck cv ci : Nat} {rk rv : List Value} {b1 i : Nat} {w : World} (hs : Sat (blk b1 (ndC n pk pv pi ck cv ci) 69 :: F) w) (hr : NdR F ⟨.slice pk n.keys.length ck, .slice pv n.vals.length cv, .slice pi n.kids.length ci, rk, rv⟩ n) (hi : i < n.keys.length) :
    Ret Tryz.prog 132 [int ((i : Nat) : Int), ptr b1] w fun v w' => v = int ((n.weight i : Nat) : Int) ∧ Sat (blk b1 (ndC n pk pv pi ck cv ci) 69 :: F) w' := by
  have hcl := cell_le hr.ks hr.vs i
  have hcall := ncell_spec hs hr.up hi
  refine Ret.enter [(true, int ((i : Nat) : Int)), (true, ptr b1)] _ Tryz.func132 rfl Tryz.ntmps132 rfl ?_
  refine zz ?_
  refine MC.condB rfl (fun hb => ?_) (fun hb => ?_)
  · refine zz ?_
    refine MC.la true (la_loadV (vs := ndC n pk pv pi ck cv ci) hs rfl rfl rfl rfl) rfl ?_
    refine zz ?_
    refine zc rfl (hcall) ?_
    rintro _ w ⟨rfl, hs⟩
    refine zz ?_
    refine MC.ret rfl ?_
    unfold Nd.weight
    rw [if_pos hb]
    exact ⟨rfl, hs⟩
  · refine zz ?_
    refine MC.la true (la_loadV (vs := ndC n pk pv pi ck cv ci) hs rfl rfl rfl rfl) rfl ?_
    refine zz ?_
    refine zc rfl (hcall) ?_
    rintro _ w ⟨rfl, hs⟩
    refine zz ?_
    refine MC.ret rfl ?_
    unfold Nd.weight
    rw [if_neg (by rw [hb]; decide)]
    exact ⟨rfl, hs⟩
theorem iclone2_spec {F : List Assn} {v : Value} {n : Nat} {l : List Nat} {w : World} (hs : Sat F w) (hl : RdS F 1 v n (bufV l)) (hn : l.length ≤ 1000) :
    Ret Tryz.prog 87 [v] w fun u w' => Sat (sl u 3 1 l.length (bufV l) :: F) w' := by
  obtain ⟨q, c, rfl, hc, hlen⟩ := hl.shape
  obtain rfl : n = l.length := by rw [bufV_length] at hlen; omega
  cases q with
  | none =>
    have h0 : l.length = 0 := by
      rcases Nat.eq_zero_or_pos l.length with h | h
      · exact h
      · obtain ⟨b, o, h', _⟩ := hl.at_ (by omega); cases h'
    have hl0 : l = [] := List.eq_nil_of_length_eq_zero h0
    subst hl0
    refine Ret.enter [(true, .slice none 0 c)] _ Tryz.func87 rfl Tryz.ntmps87 rfl ?_
    refine zz ?_
    refine MC.pure (f := true) (po_bin rfl rfl br_slice_nil) rfl ?_
    refine zz ?_
    refine MC.ret rfl ?_
    exact hs.sl_nil _ _
  | some a =>
    refine Ret.enter [(true, .slice (some a) l.length c)] _ Tryz.func87 rfl Tryz.ntmps87 rfl ?_
    refine zz ?_
    refine MC.pure (f := true) (po_bin rfl rfl br_slice_nil) rfl ?_
    refine zz ?_
    refine MC.does true (does_buildSlice0 hs) rfl ?_
    rintro _ w ⟨b1, rfl, hs⟩
    have hs := Sat.sl_mk (xs := []) (spare := []) (n := 0) (c := 0) (size := 1) hs (Nat.le_refl _) rfl rfl
    refine zz ?_
    refine MC.does true (does_append hs rfl rfl (RdS.src hl (bufV_one _)) (by omega) (by omega)) rfl ?_
    intro vn w hs
    rw [Nat.zero_add, List.nil_append] at hs
    refine zz ?_
    refine MC.ret rfl ?_
    exact hs
theorem Rows.take {F : List Assn} {p : Option Addr} {c : Nat} {rs : List Value} {ks : List Bs} (h : Rows F (.slice p ks.length c) rs ks) {b m : Nat} (hb : b ≤ ks.length) (hm : b ≤ m) : Rows F (.slice p b m) (rs.take b) (ks.take b) := by
  have e : (ks.take b).length = b := by rw [List.length_take]; omega
  have h1 := (h.sl.takeL hb).cap hm
  rw [Nat.mul_one] at h1
  refine ⟨by rw [e]; exact h1, fun i hi => ?_⟩
  rw [e] at hi
  obtain ⟨u, g1, g2⟩ := h.at_ i (by omega)
  exact ⟨u, by rw [List.getElem?_take, if_pos hi]; exact g1, by rw [List.getElem_take]; exact g2⟩
theorem Rows.drop {F : List Assn} {p : Option Addr} {c : Nat} {rs : List Value} {ks : List Bs} (h : Rows F (.slice p ks.length c) rs ks) {a : Nat} (ha : a ≤ ks.length) : Rows F (.slice (Sl.cutAt p a c 1) (ks.length - a) (c - a)) (rs.drop a) (ks.drop a) := by
  have e : (ks.drop a).length = ks.length - a := by rw [List.length_drop]
  have h1 := h.sl.dropL ha
  rw [Nat.mul_one] at h1
  refine ⟨by rw [e]; exact h1, fun i hi => ?_⟩
  rw [e] at hi
  obtain ⟨u, g1, g2⟩ := h.at_ (a + i) (by omega)
  exact ⟨u, by rw [List.getElem?_drop]; exact g1, by rw [List.getElem_drop]; exact g2⟩
abbrev zeroN : List Value := [bool false, .slice none 0 0, .slice none 0 0, .slice none 0 0]
def SplitOut (F : List Assn) (n : Nd) (v : Value) (w : World) : Prop := match n.split with
  | none => v = .tuple #[.agg zeroN.toArray, .agg zeroN.toArray, .slice none 0 0, int 200] ∧ Sat F w
  | some (l, r, key) => ∃ yl yr vk pool, NdIn pool yl l ∧ NdIn pool yr r ∧ v = .tuple #[yl.val l, yr.val r, vk, int 0] ∧
      Sat (sl vk 5 1 key.length (bytesV key) :: bods 5 pool :: sl yl.sk 33 1 l.keys.length yl.rk :: sl yl.sv 33 1 l.vals.length yl.rv :: sl yl.si 3 1 l.kids.length (bufV l.kids) :: sl yr.sk 33 1 r.keys.length yr.rk :: sl yr.sv 33 1 r.vals.length yr.rv :: sl yr.si 3 1 r.kids.length (bufV r.kids) :: F) w
theorem split_none {F : List Assn} {n : Nd} (h : ¬ n.sound ∨ n.keys.length < (if n.leaf = true then 2 else 3)) {w : World} (hs : Sat F w) : SplitOut F n (.tuple #[.agg zeroN.toArray, .agg zeroN.toArray, .slice none 0 0, int 200]) w := by
  unfold SplitOut Nd.split
  rw [if_pos h]
  exact ⟨rfl, hs⟩
set_option maxHeartbeats 4000000 in
theorem split_spec {F : List Assn} {y : NdV} {n : Nd} {w : World} (hs : Sat F w) (hr : NdR F y n) (hkd : ∀ k ∈ n.kids, k ≤ 100000) :
    Ret Tryz.prog 107 [y.val n] w (SplitOut F n) := by
  have hr0 := hr
  have hcl := cell_le hr.ks hr.vs
  obtain ⟨sk, sv, si, rk, rv⟩ := y
  obtain ⟨hk, hv, hc, ⟨f1, f2, f3⟩, hks, hvs⟩ := hr
  dsimp only [] at hk hv hc f1 f2 f3 hks hvs
  obtain ⟨pk, ck, rfl, hck, _⟩ := hk.shape
  obtain ⟨pv, cv, rfl, hcv, _⟩ := hv.shape
  obtain ⟨pi, ci, rfl, hci, _⟩ := hc.shape
  refine Ret.enter [(true, .agg (ndC n pk pv pi ck cv ci).toArray)] _ Tryz.func107 rfl Tryz.ntmps107 rfl ?_
  refine zz ?_
  refine MC.does true (does_box hs rfl rfl) rfl ?_; rintro _ w ⟨b1, rfl, hs⟩
  refine zz ?_
  refine MC.does true (does_alloc hs) rfl ?_; rintro _ w ⟨b2, rfl, hs⟩
  refine zz ?_
  refine MC.does true (does_alloc hs) rfl ?_; rintro _ w ⟨b3, rfl, hs⟩
  have hs : Sat (blk b3 zeroN 69 :: blk b2 zeroN 69 :: blk b1 (ndC n pk pv pi ck cv ci) 69 :: F) w := hs
  have hs := hs.pickF 3 [2, 1, 0] rfl rfl
  refine zz ?_
  refine MC.cutAtS 2 (σ := Unit) (fun _ => [(1, true, ptr b1), (2, true, ptr b2), (3, true, ptr b3), (6, true, int ((n.keys.length : Nat) : Int)), (7, true, int (((if n.leaf = true then 2 else 3 : Nat)) : Int))]) (fun _ w => Sat (blk b1 (ndC n pk pv pi ck cv ci) 69 :: blk b2 zeroN 69 :: blk b3 zeroN 69 :: F) w) rfl ?_ ?_
  rotate_left
  · refine MC.condB rfl (fun hb => ?_) (fun hb => ?_)
    · refine zz ?_
      exact MC.meetS () ⟨rfl, rfl, rfl, rfl, int_eq (by rw [if_pos hb]; rfl), trivial⟩ hs
    · refine zz ?_
      exact MC.meetS () ⟨rfl, rfl, rfl, rfl, int_eq (by rw [if_neg (by rw [hb]; decide)]; rfl), trivial⟩ hs
  · rintro _ w hs
    dsimp only [List.drop]
    have hleast : (if n.leaf = true then 2 else 3) ≤ 3 ∧ 2 ≤ (if n.leaf = true then 2 else 3) := by split <;> omega
    have hnone := fun (h : ¬ n.sound ∨ n.keys.length < (if n.leaf = true then 2 else 3)) (w : World) => split_none (F := F) h (w := w)
    have hsome : n.sound → ¬ n.keys.length < (if n.leaf = true then 2 else 3) → n.split = if n.leaf then some (⟨true, n.keys.take n.cut, n.vals.take n.cut, []⟩, ⟨true, n.keys.drop n.cut, n.vals.drop n.cut, []⟩, n.keys.getD n.cut []) else some (⟨false, n.keys.take (max 2 n.cut - 1), [], n.kids.take (max 2 n.cut)⟩, ⟨false, n.keys.drop (max 2 n.cut), [], n.kids.drop (max 2 n.cut)⟩, n.keys.getD (max 2 n.cut - 1) []) := fun h1 h2 => by
      unfold Nd.split; rw [if_neg (by rintro (h | h); exact h h1; exact h2 h)]
    have hl3 : n.leaf = false → (if n.leaf = true then 2 else 3) = 3 := fun h => by rw [h]; rfl
    generalize (if n.leaf = true then 2 else 3) = least at *
    refine zz ?_
    refine MC.la true (la_loadV (vs := ndC n pk pv pi ck cv ci) hs rfl rfl rfl rfl) rfl ?_
    have hcall := sound_spec hs hr0.up hkd
    refine zc rfl (hcall) ?_
    rintro _ w ⟨rfl, hs⟩
    by_cases hsd : n.sound
    · rw [decide_eq_true hsd]
      by_cases hkl : n.keys.length < least
      · refine zz ?_
        refine MC.pure (f := true) (po_build (ls := []) (out := zeroN) rfl rfl trivial rfl) rfl ?_
        refine MC.pure (f := true) (po_build (ls := []) (out := zeroN) rfl rfl trivial rfl) rfl ?_
        refine MC.does true (does_store (vs := zeroN) hs rfl rfl rfl rfl (all1 rfl) (by simp)) rfl ?_; intro _ w hs; rw [splice_all (by rfl)] at hs
        refine MC.does true (does_store (vs := zeroN) hs rfl rfl rfl rfl (all1 rfl) (by simp)) rfl ?_; intro _ w hs; rw [splice_all (by rfl)] at hs
        refine zz ?_
        exact MC.retR (vs := [.agg zeroN.toArray, .agg zeroN.toArray, .slice none 0 0, int 200]) ⟨⟨⟨b2, 0, none⟩, rfl, load_cellA hs rfl⟩, ⟨⟨b3, 0, none⟩, rfl, load_cellA hs rfl⟩, rfl, rfl, trivial⟩ (hnone (.inr hkl) _ (hs.pickF 3 [] rfl rfl))
      · have hsp := hsome hsd hkl
        clear hnone hsome
        refine zz ?_
        refine MC.pure (f := true) (po_makeFunc (vf := []) (vc := [ptr b1]) rfl rfl) rfl ?_
        refine zz ?_
        have hwl : ∀ i, n.weight i ≤ 2004 := fun i => by
          have := hcl i
          unfold Nd.weight; split <;> omega
        have hsl := sum_le hwl
        refine MC.loop (σ := Nat × Nat) (fun x => [(1, true, ptr b1), (2, true, ptr b2), (3, true, ptr b3), (6, true, int ((n.keys.length : Nat) : Int)), (8, true, .func (.func 132) #[] #[ptr b1]), (9, true, int ((x.2 : Nat) : Int)), (29, true, int ((n.keys.length : Nat) : Int)), (30, true, int ((x.1 : Nat) : Int))])
          (fun x w => x.1 ≤ n.keys.length ∧ x.2 = ((List.range x.1).map n.weight).sum ∧ Sat (blk b1 (ndC n pk pv pi ck cv ci) 69 :: blk b2 zeroN 69 :: blk b3 zeroN 69 :: F) w) (fun x => n.keys.length - x.1) (0, 0) zi ⟨Nat.zero_le _, rfl, hs⟩ ?_
        clear hs
        rintro ⟨i, sm⟩ w ⟨hi, hsm, hs⟩
        dsimp only [] at hi hsm hs ⊢
        rcases Nat.lt_or_ge i n.keys.length with hlt | hge
        · have hsi := hsl i
          have hwi := hwl i
          have hcall := weight_spec hs hr0.up hlt
          refine zz ?_
          refine MC.does true (does_callv (first := []) (capt := [ptr b1]) rfl rfl hcall) rfl ?_
          rintro _ w ⟨rfl, hs⟩
          refine zz ?_
          exact MC.again (i + 1, sm + n.weight i) zi ⟨hlt, by dsimp only []; rw [sum_step]; omega, hs⟩ (by show n.keys.length - (i + 1) < n.keys.length - i; omega)
        · obtain rfl : i = n.keys.length := by omega
          have hsk := hsl n.keys.length
          refine zz ?_
          refine MC.cutAtS 2 (σ := Unit) (fun _ => [(1, true, ptr b1), (2, true, ptr b2), (3, true, ptr b3), (11, true, int ((n.cut : Nat) : Int))]) (fun _ w => Sat (blk b1 (ndC n pk pv pi ck cv ci) 69 :: blk b2 zeroN 69 :: blk b3 zeroN 69 :: F) w) rfl ?_ ?_
          rotate_left
          · refine MC.loop (σ := Nat × Nat) (fun x => [(1, true, ptr b1), (2, true, ptr b2), (3, true, ptr b3), (6, true, int ((n.keys.length : Nat) : Int)), (8, true, .func (.func 132) #[] #[ptr b1]), (9, true, int ((sm : Nat) : Int)), (11, true, int ((x.1 : Nat) : Int)), (12, true, int ((x.2 : Nat) : Int))])
              (fun x w => x.1 ≤ n.keys.length - 1 ∧ x.2 ≤ 2004 * x.1 ∧ Go.Tr.cutAt n.weight n.keys.length sm (n.keys.length - x.1) x.1 x.2 = n.cut ∧ Sat (blk b1 (ndC n pk pv pi ck cv ci) 69 :: blk b2 zeroN 69 :: blk b3 zeroN 69 :: F) w) (fun x => n.keys.length - x.1) (0, 0) zi ⟨Nat.zero_le _, Nat.le_refl _, by rw [hsm]; rfl, hs⟩ ?_
            clear hs
            rintro ⟨i, pt⟩ w ⟨hi, hpt, hcut, hs⟩
            dsimp only [] at hi hpt hcut hs ⊢
            rw [show n.keys.length - i = (n.keys.length - (i + 1)) + 1 by omega] at hcut
            unfold Go.Tr.cutAt at hcut
            by_cases h1 : i < n.keys.length - 1
            · by_cases h2 : 2 * pt < sm
              · rw [if_pos ⟨h1, h2⟩] at hcut
                have hwi := hwl i
                have hcall := weight_spec hs hr0.up (show i < n.keys.length by omega)
                refine zz ?_
                refine MC.does true (does_callv (first := []) (capt := [ptr b1]) rfl rfl hcall) rfl ?_
                rintro _ w ⟨rfl, hs⟩
                refine zz ?_
                exact MC.again (i + 1, pt + n.weight i) zi ⟨by show i + 1 ≤ _; omega, by dsimp only []; omega, hcut, hs⟩ (by show n.keys.length - (i + 1) < n.keys.length - i; omega)
              · rw [if_neg (fun h => h2 h.2)] at hcut
                refine zz ?_
                exact MC.meetS () ⟨rfl, rfl, rfl, int_eq (by rw [hcut]), trivial⟩ hs
            · rw [if_neg (fun h => h1 h.1)] at hcut
              refine zz ?_
              exact MC.meetS () ⟨rfl, rfl, rfl, int_eq (by rw [hcut]), trivial⟩ hs
          · rintro _ w hs
            dsimp only [List.drop]
            have hbd := Go.Pa.cut_bd (n := n) (by omega)
            generalize n.cut = c at *
            have h3 := hsd.2.2
            refine zz ?_
            refine MC.condB rfl (fun hb => ?_) (fun hb => ?_)
            · rw [if_pos hb] at h3 hsp
              obtain ⟨hv1, hk0, _⟩ := h3
              have hck1 : c ≤ n.keys.length := by omega
              refine zz ?_
              refine MC.draw hs [0, 1, 2, 3, 4, 6, 7, 8, 9, 10, 5, 11, 12, 13] (by rfl) ?_; intro w hs
              refine zd ?_
              refine MC.pure (f := true) (po_slice3_hi (b := c) (m := c) rfl rfl rfl (Nat.le_refl _) (by omega)) rfl ?_
              refine zd ?_
              refine MC.pure (f := true) (po_slice3_hi (b := c) (m := c) rfl rfl rfl (Nat.le_refl _) (by omega)) rfl ?_
              have ho1 := own_spec hs (hk.take (b := c) (m := c) hck1 (Nat.le_refl _)).up (by rw [List.length_take]; omega) (fun k h => hks k (List.mem_of_mem_take h))
              refine MC.doesK true (does_call rfl (ho1)) rfl rfl rfl ?_
              rintro v1 w ⟨ro1, po1, hin1, hs⟩
              refine zh ?_
              have ho2 := own_spec hs (hv.take (b := c) (m := c) (by omega) (Nat.le_refl _)).up (by rw [List.length_take]; omega) (fun k h => hvs k (List.mem_of_mem_take h))
              refine MC.doesK true (does_call rfl (ho2)) rfl rfl rfl ?_
              rintro v2 w ⟨ro2, po2, hin2, hs⟩
              refine zh ?_
              obtain ⟨_, q1, c1, rfl, _⟩ := hs.tail.tail.tail.sl_len
              obtain ⟨_, q2, c2, rfl, _⟩ := hs.tail.sl_len
              refine zd ?_
              refine MC.pure (f := true) (po_build (ls := [(0, [bool true]), (1, [.slice q1 (n.keys.take c).length c1]), (2, [.slice q2 (n.vals.take c).length c2])]) (out := [bool true, .slice q1 (n.keys.take c).length c1, .slice q2 (n.vals.take c).length c2, .slice none 0 0]) rfl rfl ⟨⟨_, rfl, by simp⟩, ⟨_, rfl, by simp⟩, ⟨_, rfl, by simp⟩, trivial⟩ rfl) rfl ?_
              refine MC.doesK true (does_store (vs := [bool true, .slice q1 (n.keys.take c).length c1, .slice q2 (n.vals.take c).length c2, .slice none 0 0]) hs rfl rfl rfl rfl (all1 rfl) (by simp)) rfl rfl rfl ?_
              intro _ w hs
              rw [splice_all (by rfl)] at hs
              refine zh ?_
              refine zd ?_
              refine zz ?_
              refine MC.draw hs [0, 1, 2, 3, 5, 6, 7, 8, 4, 9, 10, 11] (by rfl) ?_; intro w hs
              refine zd ?_
              refine MC.pure (f := true) (po_slice_lo (a := c) rfl rfl hck1) rfl ?_
              refine zd ?_
              refine MC.pure (f := true) (po_slice_lo (a := c) rfl rfl (by omega)) rfl ?_
              have ho3 := own_spec hs (hk.drop (a := c) hck1).up (by rw [List.length_drop]; omega) (fun k h => hks k (List.mem_of_mem_drop h))
              refine MC.doesK true (does_call rfl (ho3)) rfl rfl rfl ?_
              rintro v3 w ⟨ro3, po3, hin3, hs⟩
              refine zh ?_
              have ho4 := own_spec hs (hv.drop (a := c) (by omega)).up (by rw [List.length_drop]; omega) (fun k h => hvs k (List.mem_of_mem_drop h))
              refine MC.doesK true (does_call rfl (ho4)) rfl rfl rfl ?_
              rintro v4 w ⟨ro4, po4, hin4, hs⟩
              refine zh ?_
              obtain ⟨_, q3, c3, rfl, _⟩ := hs.tail.tail.tail.sl_len
              obtain ⟨_, q4, c4, rfl, _⟩ := hs.tail.sl_len
              refine zd ?_
              refine MC.pure (f := true) (po_build (ls := [(0, [bool true]), (1, [.slice q3 (n.keys.drop c).length c3]), (2, [.slice q4 (n.vals.drop c).length c4])]) (out := [bool true, .slice q3 (n.keys.drop c).length c3, .slice q4 (n.vals.drop c).length c4, .slice none 0 0]) rfl rfl ⟨⟨_, rfl, by simp⟩, ⟨_, rfl, by simp⟩, ⟨_, rfl, by simp⟩, trivial⟩ rfl) rfl ?_
              refine MC.doesK true (does_store (vs := [bool true, .slice q3 (n.keys.drop c).length c3, .slice q4 (n.vals.drop c).length c4, .slice none 0 0]) hs rfl rfl rfl rfl (all1 rfl) (by simp)) rfl rfl rfl ?_
              intro _ w hs
              rw [splice_all (by rfl)] at hs
              refine zh ?_
              refine zd ?_
              refine zz ?_
              have hcl2 : c < n.keys.length := by omega
              obtain ⟨kb, ko, kcc, kq, kc2, hv0, hg, hrd, hk1⟩ := hk.get hcl2
              cases hv0
              have hj : rk[((c : Nat) : Int).toNat * 1]? = some (.slice kq n.keys[c].length kc2) := by rw [Int.toNat_natCast, Nat.mul_one]; exact hg
              have hkl3 := hks _ (List.getElem_mem hcl2)
              refine MC.draw hs [0, 1, 2, 3, 4, 5, 6, 7, 8, 9, 10, 11] (by rfl) ?_; intro w hs
              refine MC.laD true (la_loadV (vs := [bool true, .slice q1 (n.keys.take c).length c1, .slice q2 (n.vals.take c).length c2, .slice none 0 0]) hs rfl rfl rfl rfl) rfl ?_
              refine MC.laD true (la_loadV (vs := [bool true, .slice q3 (n.keys.drop c).length c3, .slice q4 (n.vals.drop c).length c4, .slice none 0 0]) hs rfl rfl rfl rfl) rfl ?_
              refine zd ?_
              refine MC.laD true (la_load1_rd hrd hs (j := ((c : Nat) : Int).toNat * 1) rfl hj) rfl ?_
              refine zd ?_
              have hcb := bclone_spec hs hk1.up (by omega)
              refine MC.doesK true (does_call rfl (hcb)) rfl rfl rfl ?_
              intro vk w hs
              refine zh ?_
              refine MC.doesK true (does_store (vs := [bool true, .slice q1 (n.keys.take c).length c1, .slice q2 (n.vals.take c).length c2, .slice none 0 0]) hs rfl rfl rfl rfl (all1 rfl) (by simp)) rfl rfl rfl ?_
              intro _ w hs
              rw [splice_all (by rfl)] at hs
              refine zh ?_
              refine MC.doesK true (does_store (vs := [bool true, .slice q3 (n.keys.drop c).length c3, .slice q4 (n.vals.drop c).length c4, .slice none 0 0]) hs rfl rfl rfl rfl (all1 rfl) (by simp)) rfl rfl rfl ?_
              intro _ w hs
              rw [splice_all (by rfl)] at hs
              refine zh ?_
              obtain ⟨_, qy, cy, rfl, _⟩ := hs.sl_len
              refine zd ?_
              refine zz ?_
              refine MC.retR (vs := [.agg [bool true, .slice q1 (n.keys.take c).length c1, .slice q2 (n.vals.take c).length c2, .slice none 0 0].toArray, .agg [bool true, .slice q3 (n.keys.drop c).length c3, .slice q4 (n.vals.drop c).length c4, .slice none 0 0].toArray, .slice qy n.keys[c].length cy, int 0]) ⟨⟨⟨b2, 0, none⟩, rfl, load_cellA hs rfl⟩, ⟨⟨b3, 0, none⟩, rfl, load_cellA hs rfl⟩, rfl, rfl, trivial⟩ ?_
              have hs := hs.pickF 12 [7, 5, 3, 1, 0, 8, 6, 4, 2] rfl rfl
              have hs := bods_app (bods_app (bods_app hs))
              have hs := ((hs.sl_nil 3 1).sl_nil 3 1).pickF 8 [3, 2, 4, 5, 0, 6, 7, 1] rfl rfl
              unfold SplitOut
              rw [hsp, getD_at hcl2]
              have g1 := hin1.mono (pool' := po1 ++ po2 ++ po3 ++ po4) fun x hx => by simp [hx]
              have g2 := hin2.mono (pool' := po1 ++ po2 ++ po3 ++ po4) fun x hx => by simp [hx]
              have g3 := hin3.mono (pool' := po1 ++ po2 ++ po3 ++ po4) fun x hx => by simp [hx]
              have g4 := hin4.mono (pool' := po1 ++ po2 ++ po3 ++ po4) fun x hx => by simp [hx]
              exact ⟨⟨.slice q1 (n.keys.take c).length c1, .slice q2 (n.vals.take c).length c2, .slice none 0 0, ro1, ro2⟩, ⟨.slice q3 (n.keys.drop c).length c3, .slice q4 (n.vals.drop c).length c4, .slice none 0 0, ro3, ro4⟩, _, po1 ++ po2 ++ po3 ++ po4, ⟨g1.1, g1.2, g2.1, g2.2⟩, ⟨g3.1, g3.2, g4.1, g4.2⟩, rfl, hs⟩
            · rw [if_neg (by rw [hb]; decide)] at h3 hsp
              obtain ⟨hv1, hk0, _⟩ := h3
              obtain ⟨d, hd⟩ : ∃ d, max 2 c = d := ⟨_, rfl⟩
              rw [hd] at hsp
              have hl3 := hl3 hb
              have hd1 : 2 ≤ d ∧ d ≤ n.keys.length - 1 := by omega
              have hmx : (max (2 : Int) ((c : Nat) : Int)) = ((d : Nat) : Int) := by omega
              refine zz ?_
              rw [hmx]
              have hdm : (((d : Nat) : Int) - 1) = ((d - 1 : Nat) : Int) := by omega
              have hdk : d - 1 ≤ n.keys.length := by omega
              refine MC.draw hs [0, 1, 2, 3, 4, 5, 6, 8, 9, 10, 11, 12, 7, 13, 14, 15] (by rfl) ?_; intro w hs
              refine zd ?_
              rw [hdm]
              refine MC.pure (f := true) (po_slice3_hi (b := d - 1) (m := d - 1) rfl rfl rfl (Nat.le_refl _) (by omega)) rfl ?_
              refine zd ?_
              refine MC.pure (f := true) (po_slice3_hi (b := d) (m := d) rfl rfl rfl (Nat.le_refl _) (by omega)) rfl ?_
              have ho1 := own_spec hs (hk.take (b := d - 1) (m := d - 1) hdk (Nat.le_refl _)).up (by rw [List.length_take]; omega) (fun k h => hks k (List.mem_of_mem_take h))
              refine MC.doesK true (does_call rfl (ho1)) rfl rfl rfl ?_
              rintro v1 w ⟨ro1, po1, hin1, hs⟩
              refine zh ?_
              have hct := (hc.takeL (b := d) (by omega)).cap (c' := d) (Nat.le_refl _)
              have ect : (bufV n.kids).take (d * 1) = bufV (n.kids.take d) := by rw [Nat.mul_one]; simp [bufV, List.map_take]
              rw [ect] at hct
              have ho2 := iclone2_spec hs hct.up (by rw [List.length_take]; omega)
              refine MC.doesK true (does_call rfl (ho2)) rfl rfl rfl ?_
              rintro v2 w hs
              refine zh ?_
              obtain ⟨_, q1, c1, rfl, _⟩ := hs.tail.tail.sl_len
              obtain ⟨_, q2, c2, rfl, _⟩ := hs.sl_len
              refine zd ?_
              refine MC.pure (f := true) (po_build (ls := [(1, [.slice q1 (n.keys.take (d - 1)).length c1]), (3, [.slice q2 (n.kids.take d).length c2])]) (out := [bool false, .slice q1 (n.keys.take (d - 1)).length c1, .slice none 0 0, .slice q2 (n.kids.take d).length c2]) rfl rfl ⟨⟨_, rfl, by simp⟩, ⟨_, rfl, by simp⟩, trivial⟩ rfl) rfl ?_
              refine MC.doesK true (does_store (vs := [bool false, .slice q1 (n.keys.take (d - 1)).length c1, .slice none 0 0, .slice q2 (n.kids.take d).length c2]) hs rfl rfl rfl rfl (all1 rfl) (by simp)) rfl rfl rfl ?_
              intro _ w hs
              rw [splice_all (by rfl)] at hs
              refine zh ?_
              refine zd ?_
              refine zz ?_
              refine MC.draw hs [0, 1, 2, 3, 5, 6, 7, 8, 4, 9, 10, 11] (by rfl) ?_; intro w hs
              refine zd ?_
              refine MC.pure (f := true) (po_slice_lo (a := d) rfl rfl (by omega)) rfl ?_
              refine zd ?_
              refine MC.pure (f := true) (po_slice_lo (a := d) rfl rfl (by omega)) rfl ?_
              have ho3 := own_spec hs (hk.drop (a := d) (by omega)).up (by rw [List.length_drop]; omega) (fun k h => hks k (List.mem_of_mem_drop h))
              refine MC.doesK true (does_call rfl (ho3)) rfl rfl rfl ?_
              rintro v3 w ⟨ro3, po3, hin3, hs⟩
              refine zh ?_
              have hcd := hc.dropL (a := d) (by omega)
              have ecd : (bufV n.kids).drop (d * 1) = bufV (n.kids.drop d) := by rw [Nat.mul_one]; simp [bufV, List.map_drop]
              rw [ecd] at hcd
              have ho4 := iclone2_spec hs hcd.up (by rw [List.length_drop]; omega)
              refine MC.doesK true (does_call rfl (ho4)) rfl rfl rfl ?_
              rintro v4 w hs
              refine zh ?_
              obtain ⟨_, q3, c3, rfl, _⟩ := hs.tail.tail.sl_len
              obtain ⟨_, q4, c4, rfl, _⟩ := hs.sl_len
              refine zd ?_
              refine MC.pure (f := true) (po_build (ls := [(1, [.slice q3 (n.keys.drop d).length c3]), (3, [.slice q4 (n.kids.drop d).length c4])]) (out := [bool false, .slice q3 (n.keys.drop d).length c3, .slice none 0 0, .slice q4 (n.kids.drop d).length c4]) rfl rfl ⟨⟨_, rfl, by simp⟩, ⟨_, rfl, by simp⟩, trivial⟩ rfl) rfl ?_
              refine MC.doesK true (does_store (vs := [bool false, .slice q3 (n.keys.drop d).length c3, .slice none 0 0, .slice q4 (n.kids.drop d).length c4]) hs rfl rfl rfl rfl (all1 rfl) (by simp)) rfl rfl rfl ?_
              intro _ w hs
              rw [splice_all (by rfl)] at hs
              refine zh ?_
              refine zd ?_
              refine zz ?_
              have hcl2 : d - 1 < n.keys.length := by omega
              obtain ⟨kb, ko, kcc, kq, kc2, hv0, hg, hrd, hk1⟩ := hk.get hcl2
              cases hv0
              have hj : rk[(((d - 1 : Nat)) : Int).toNat * 1]? = some (.slice kq n.keys[d - 1].length kc2) := by rw [Int.toNat_natCast, Nat.mul_one]; exact hg
              have hkl3 := hks _ (List.getElem_mem hcl2)
              refine MC.draw hs [0, 1, 2, 3, 4, 5, 6, 7, 8, 9, 10, 11, 12] (by rfl) ?_; intro w hs
              refine MC.laD true (la_loadV (vs := [bool false, .slice q1 (n.keys.take (d - 1)).length c1, .slice none 0 0, .slice q2 (n.kids.take d).length c2]) hs rfl rfl rfl rfl) rfl ?_
              refine MC.laD true (la_loadV (vs := [bool false, .slice q3 (n.keys.drop d).length c3, .slice none 0 0, .slice q4 (n.kids.drop d).length c4]) hs rfl rfl rfl rfl) rfl ?_
              refine zd ?_
              have hj' : rk[(((d : Nat) : Int) - 1).toNat * 1]? = some (.slice kq n.keys[d - 1].length kc2) := by rw [hdm]; exact hj
              refine MC.laD true (la_load1_rd hrd hs (j := (((d : Nat) : Int) - 1).toNat * 1) rfl hj') rfl ?_
              refine zd ?_
              have hcb := bclone_spec hs hk1.up (by omega)
              refine MC.doesK true (does_call rfl (hcb)) rfl rfl rfl ?_
              intro vk w hs
              refine zh ?_
              refine MC.doesK true (does_store (vs := [bool false, .slice q1 (n.keys.take (d - 1)).length c1, .slice none 0 0, .slice q2 (n.kids.take d).length c2]) hs rfl rfl rfl rfl (all1 rfl) (by simp)) rfl rfl rfl ?_
              intro _ w hs
              rw [splice_all (by rfl)] at hs
              refine zh ?_
              refine MC.doesK true (does_store (vs := [bool false, .slice q3 (n.keys.drop d).length c3, .slice none 0 0, .slice q4 (n.kids.drop d).length c4]) hs rfl rfl rfl rfl (all1 rfl) (by simp)) rfl rfl rfl ?_
              intro _ w hs
              rw [splice_all (by rfl)] at hs
              refine zh ?_
              obtain ⟨_, qy, cy, rfl, _⟩ := hs.sl_len
              refine zd ?_
              refine zz ?_
              refine MC.retR (vs := [.agg [bool false, .slice q1 (n.keys.take (d - 1)).length c1, .slice none 0 0, .slice q2 (n.kids.take d).length c2].toArray, .agg [bool false, .slice q3 (n.keys.drop d).length c3, .slice none 0 0, .slice q4 (n.kids.drop d).length c4].toArray, .slice qy n.keys[d - 1].length cy, int 0]) ⟨⟨⟨b2, 0, none⟩, rfl, load_cellA hs rfl⟩, ⟨⟨b3, 0, none⟩, rfl, load_cellA hs rfl⟩, rfl, rfl, trivial⟩ ?_
              have hs := hs.pickF 10 [5, 2, 0, 6, 4, 3, 1] rfl rfl
              have hs := bods_app hs
              have hs := ((hs.sl_nil 33 1).sl_nil 33 1).pickF 8 [3, 2, 4, 0, 5, 6, 1, 7] rfl rfl
              unfold SplitOut
              rw [hsp, getD_at hcl2]
              have g1 := hin1.mono (pool' := po1 ++ po3) fun x hx => by simp [hx]
              have g3 := hin3.mono (pool' := po1 ++ po3) fun x hx => by simp [hx]
              exact ⟨⟨.slice q1 (n.keys.take (d - 1)).length c1, .slice none 0 0, .slice q2 (n.kids.take d).length c2, ro1, []⟩, ⟨.slice q3 (n.keys.drop d).length c3, .slice none 0 0, .slice q4 (n.kids.drop d).length c4, ro3, []⟩, _, po1 ++ po3, ⟨g1.1, g1.2, rfl, fun i k h => (by cases h)⟩, ⟨g3.1, g3.2, rfl, fun i k h => (by cases h)⟩, rfl, hs⟩
    · rw [decide_eq_false hsd]
      refine zz ?_
      refine MC.pure (f := true) (po_build (ls := []) (out := zeroN) rfl rfl trivial rfl) rfl ?_
      refine MC.pure (f := true) (po_build (ls := []) (out := zeroN) rfl rfl trivial rfl) rfl ?_
      refine MC.does true (does_store (vs := zeroN) hs rfl rfl rfl rfl (all1 rfl) (by simp)) rfl ?_; intro _ w hs; rw [splice_all (by rfl)] at hs
      refine MC.does true (does_store (vs := zeroN) hs rfl rfl rfl rfl (all1 rfl) (by simp)) rfl ?_; intro _ w hs; rw [splice_all (by rfl)] at hs
      refine zz ?_
      exact MC.retR (vs := [.agg zeroN.toArray, .agg zeroN.toArray, .slice none 0 0, int 200]) ⟨⟨⟨b2, 0, none⟩, rfl, load_cellA hs rfl⟩, ⟨⟨b3, 0, none⟩, rfl, load_cellA hs rfl⟩, rfl, rfl, trivial⟩ (hnone (.inl hsd) _ (hs.pickF 3 [] rfl rfl))
end Go.Proofs.YtkccjgllanpebaaGreatDoor
