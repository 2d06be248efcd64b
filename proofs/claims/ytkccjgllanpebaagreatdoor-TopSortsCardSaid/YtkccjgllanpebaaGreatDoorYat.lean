/-
  Values' keys: digits | Pages: Mark, Back | Values' keys: put, Bytes | Pages: New
-/
import Derived.Test.YtkccjgllanpebaaGreatDoorYas
import Derived.KernelRfl
set_option maxHeartbeats 1000000
set_option linter.unusedVariables false
set_option linter.unusedSimpArgs false
namespace Go.Proofs.YtkccjgllanpebaaGreatDoor
open Go Go.Sl Go.Tr Go.Kv
attribute [local irreducible] LooksAt
theorem xor255 : ∀ n : Fin 256, 255 ^^^ n.val = 255 - n.val := by decide +kernel
theorem xorT (neg : Bool) (x : UInt8) : (if neg = true then (255 : Int) else 0).toNat ^^^ (((x.toNat : Nat) : Int)).toNat = (turnB neg x).toNat := by
  cases neg with
  | false => show 0 ^^^ (((x.toNat : Nat) : Int)).toNat = x.toNat; rw [Int.toNat_natCast, Nat.zero_xor]
  | true =>
    show 255 ^^^ (((x.toNat : Nat) : Int)).toNat = (255 - x).toNat
    rw [Int.toNat_natCast, from255]
    exact xor255 ⟨x.toNat, x.toNat_lt⟩
set_option maxHeartbeats 4000000 in
theorem digits_spec {F : List Assn} {w : World} {vo : Value} {ob : Bs} {m e : Int} (hs : Sat (sl vo 5 1 ob.length (bytesV ob) :: F) w) (hT : Tabs F) (ho : ob.length ≤ 1000000) (hm : I64 m) (hN : okN m e) :
    Ret Tryz.prog 48 [vo, .agg #[int m, int e]] w fun v w' => Sat (sl v 5 1 (ob ++ numK m e).length (bytesV (ob ++ numK m e)) :: F) w' := by
  obtain ⟨_, q, c, rfl, hc⟩ := hs.sl_len
  have hm' := hm
  unfold I64 at hm'
  refine Ret.enter [(true, .slice q ob.length c), (true, .agg #[int m, int e])] _ Tryz.func48 rfl Tryz.ntmps48 rfl ?_
  refine zz ?_
  refine MC.does true (does_box hs rfl rfl) rfl ?_; rintro _ w ⟨b3, rfl, hs⟩
  by_cases h0 : m = 0
  · have e1 : numK m e = [2] := by unfold numK; rw [if_pos h0]
    rw [e1]
    refine zz ?_
    refine MC.does true (does_buildL hs rfl rfl rfl (all1 rfl) rfl) rfl ?_; rintro _ w ⟨b1, rfl, hs⟩
    refine MC.does true (does_append hs rfl rfl (src_at rfl (all1 rfl)) (by omega) (by omega)) rfl ?_
    intro va w hs
    have hs := sl_eq (l := ob ++ [2]) (hs.pickF 3 [2] rfl rfl) rfl (by simp) (by rw [bytesV_app]; rfl)
    refine zz ?_
    refine MC.ret rfl ?_
    exact hs
  · obtain ⟨o1, o2, o3, o4⟩ := hN.2 h0
    have hdl := dec_len o1
    have hdg := digit_of (sizeN m)
    obtain ⟨neg, hneg⟩ : ∃ neg, neg = decide (m < 0) := ⟨_, rfl⟩
    have e1 : numK m e = digK neg (Lib.decDigits (sizeN m)) e := by unfold numK; rw [if_neg h0, hneg]
    rw [e1]
    generalize hd : Lib.decDigits (sizeN m) = d at hdl hdg e1
    have hpt := ptB_nat hdl ⟨o3, o4⟩
    obtain ⟨tv, htv⟩ : ∃ tv : Int, tv = if neg = true then 255 else 0 := ⟨_, rfl⟩
    have htb : 0 ≤ tv ∧ tv ≤ 255 := by rw [htv]; split <;> omega
    have hxt : ∀ x : UInt8, tv.toNat ^^^ (((x.toNat : Nat) : Int)).toNat = (turnB neg x).toNat := fun x => by rw [htv]; exact xorT neg x
    have hxz : Value.int .u8 tv = .int .u8 (((turnB neg 0).toNat : Nat) : Int) := by rw [htv]; cases neg <;> rfl
    refine zz ?_
    refine MC.draw hs [0, 1, 2, 3, 4, 5] (by rfl) ?_; intro w hs
    refine zd ?_
    refine zz ?_
    refine MC.cutAtS (σ := Unit) 1 (fun _ => [(0, true, .slice q ob.length c), (3, true, ptr b3), (5, true, .int .u8 tv), (6, true, .int .u8 (if neg then 1 else 3)), (7, true, .int .u64 ((sizeN m : Nat) : Int))])
      (fun _ w => Sat (blk b3 [int m, int e] 29 :: sl (.slice q ob.length c) 5 1 ob.length (bytesV ob) :: F) w) rfl ?_ ?_
    rotate_left
    · (try dsimp only [List.drop_succ_cons, List.drop_zero, List.take_succ_cons, List.take_zero, List.cons_append, List.nil_append])
      rcases Int.lt_or_le m 0 with h | h
      · have hnt : neg = true := by rw [hneg, decide_eq_true h]
        subst hnt
        subst htv
        have hw : IntKind.u64.wrap (0 - IntKind.u64.wrap m) = ((sizeN m : Nat) : Int) := by
          rw [wrap_u64, wrap_u64]; unfold sizeN; omega
        refine zz ?_
        rw [hw]
        exact MC.meetS () zi hs
      · have hnt : neg = false := by rw [hneg, decide_eq_false (by omega)]
        subst hnt
        subst htv
        have hw : IntKind.u64.wrap m = ((sizeN m : Nat) : Int) := by
          rw [wrap_u64]; unfold sizeN; omega
        refine zz ?_
        rw [hw]
        exact MC.meetS () zi hs
    · clear hs
      rintro _ w hs
      dsimp only [List.drop] at hs ⊢
      have hf := fmt_spec (u := sizeN m) hs hT.up (by omega)
      rw [hd] at hf
      have hwr : IntKind.u8.wrap (100 + ((d.length : Nat) : Int) + e) = (((ptB d e).toNat : Nat) : Int) := by
        rw [wrap_u8]; omega
      refine zz ?_
      refine zc rfl (hf) ?_
      rintro _ w ⟨rfl, hs⟩
      refine zz ?_
      rw [hwr, hxt]
      refine MC.does true (does_buildL hs rfl rfl rfl (all1 rfl) rfl) rfl ?_; rintro _ w ⟨b1, rfl, hs⟩
      refine MC.does true (does_append hs rfl rfl (src_at rfl (all1 rfl)) (by omega) (by omega)) rfl ?_
      intro va w hs
      obtain ⟨hd2, hhd⟩ : ∃ hd2 : Bs, hd2 = [if neg then 1 else 3, turnB neg (ptB d e)] := ⟨_, rfl⟩
      have hs := sl_eq (l := ob ++ hd2) (hs.pickF 3 [2] rfl rfl) rfl (by rw [hhd]; simp) (by rw [bytesV_app, hhd]; cases neg <;> rfl)
      have hhl : hd2.length = 2 := by rw [hhd]; rfl
      have e2 : digK neg d e = hd2 ++ (d.map fun c => turnB neg (c - 47)) ++ [turnB neg 0] := by rw [hhd]; rfl
      obtain ⟨_, q2, c2, rfl, hc2⟩ := hs.sl_len
      have hs0 : Sat (sl (.slice q2 (ob ++ hd2).length c2) 5 1 (ob ++ hd2 ++ (d.take 0).map fun c => turnB neg (c - 47)).length (bytesV (ob ++ hd2 ++ (d.take 0).map fun c => turnB neg (c - 47))) :: F) w := by
        simpa using hs
      refine zz ?_
      refine MC.loop (σ := Nat × Value) (fun x => [(0, true, x.2), (5, true, .int .u8 tv), (8, true, str d), (40, true, int ((d.length : Nat) : Int)), (41, true, int ((x.1 : Nat) : Int))])
        (fun x w => x.1 ≤ d.length ∧ Sat (sl x.2 5 1 (ob ++ hd2 ++ (d.take x.1).map fun c => turnB neg (c - 47)).length (bytesV (ob ++ hd2 ++ (d.take x.1).map fun c => turnB neg (c - 47))) :: F) w) (fun x => d.length - x.1) (0, .slice q2 (ob ++ hd2).length c2) zi ⟨Nat.zero_le _, hs0⟩ ?_
      clear hs hs0
      rintro ⟨i, vx⟩ w ⟨hi, hs⟩
      dsimp only [] at hi hs ⊢
      obtain ⟨_, q3, c3, rfl, hc3⟩ := hs.sl_len
      obtain ⟨pre, hpre⟩ : ∃ pre, pre = ob ++ hd2 ++ (d.take i).map fun c => turnB neg (c - 47) := ⟨_, rfl⟩
      have hpl : pre.length ≤ 2000000 := by rw [hpre, List.length_append, List.length_append, List.length_map, List.length_take]; omega
      rw [← hpre] at hs ⊢
      rcases Nat.lt_or_ge i d.length with hlt | hge
      · obtain ⟨x, hx⟩ : ∃ x, d[i] = x := ⟨_, rfl⟩
        have hx48 := hdg d[i] (List.getElem_mem hlt)
        rw [hx] at hx48
        have hby : byteAt d ((i : Nat) : Int).toNat = ((x.toNat : Nat) : Int) := by
          unfold byteAt
          rw [Int.toNat_natCast, List.getElem?_eq_getElem hlt, hx]; rfl
        have hby2 : byteAt d i = ((x.toNat : Nat) : Int) := hby
        have h47 : ((x.toNat : Nat) : Int) - 48 + 1 = (((x - 47).toNat : Nat) : Int) := by rw [sub47 hx48]; omega
        have e3 : pre ++ [turnB neg (x - 47)] = ob ++ hd2 ++ (d.take (i + 1)).map fun c => turnB neg (c - 47) := by
          rw [List.take_succ_eq_append_getElem hlt, hx, hpre]; simp
        refine zz ?_
        refine MC.run1 tab 1000 rfl rfl (by simp only [Conds, rng, wrap_u8, hby, List.cons_append, List.nil_append]; omega) ?_
        have hwv : IntKind.u8.wrap (IntKind.u8.wrap (byteAt d ((i : Nat) : Int).toNat - 48) + 1) = (((x - 47).toNat : Nat) : Int) := by
          rw [hby, wrap_u8, wrap_u8, ← h47]; omega
        rw [hwv, hxt]
        refine MC.does true (does_buildL hs rfl rfl rfl (all1 rfl) rfl) rfl ?_; rintro _ w ⟨b1, rfl, hs⟩
        refine MC.does true (does_append hs rfl rfl (src_at rfl (all1 rfl)) (by omega) (by omega)) rfl ?_
        intro va w hs
        have hs := sl_eq (l := pre ++ [turnB neg (x - 47)]) hs.tail rfl (by simp) (by rw [bytesV_app]; rfl)
        refine zz ?_
        exact MC.again (i + 1, va) zi ⟨hlt, by show Sat (sl _ _ 1 (ob ++ hd2 ++ (d.take (i + 1)).map fun c => turnB neg (c - 47)).length (bytesV (ob ++ hd2 ++ (d.take (i + 1)).map fun c => turnB neg (c - 47))) :: F) _; rw [← e3]; exact hs⟩ (by show d.length - (i + 1) < d.length - i; omega)
      · obtain rfl : i = d.length := by omega
        rw [List.take_length] at hpre
        refine zz ?_
        rw [hxz]
        refine MC.does true (does_buildL hs rfl rfl rfl (all1 rfl) rfl) rfl ?_; rintro _ w ⟨b1, rfl, hs⟩
        refine MC.does true (does_append hs rfl rfl (src_at rfl (all1 rfl)) (by omega) (by omega)) rfl ?_
        intro va w hs
        have hs := sl_eq (l := pre ++ [turnB neg 0]) hs.tail rfl (by simp) (by rw [bytesV_app]; rfl)
        refine zz ?_
        refine MC.ret rfl ?_
        have e4 : pre ++ [turnB neg 0] = ob ++ digK neg d e := by rw [hpre, e2]; simp
        rw [← e4]
        exact hs
end Go.Proofs.YtkccjgllanpebaaGreatDoor

namespace Go.Proofs.YtkccjgllanpebaaGreatDoor
open Go Go.Sl Go.Tr
attribute [local irreducible] LooksAt
instance extMaps : Ext Tryz.prog 124 Extern.MapsClone.clone :=
  ⟨fun args w => run_callFunc_extern Tryz.func124 (by kernel_rfl) (by kernel_rfl) (by kernel_rfl) (by kernel_rfl) args w⟩
theorem mclone_spec {F : List Assn} {G : Assn → List Assn} {q : Nat} {m : List (Int × Value)} {w : World} (hs : Sat F w) [hA : AtM F q m G] :
    Ret Tryz.prog 88 [.map (some q)] w fun v w' => ∃ q', v = .map (some q') ∧ Sat (mp q' m :: F) w' := by
  refine Ret.enter [(true, .map (some q))] _ Tryz.func88 rfl Tryz.ntmps88 rfl ?_
  refine zz ?_
  refine MC.pure (f := true) (po_bin rfl rfl br_map_nil) rfl ?_
  refine zz ?_
  refine MC.pure (f := true) (po_makeIfaceM rfl) rfl ?_
  obtain ⟨q', w1, h1, hs1⟩ := run_mapsClone (P := Tryz.prog) (q := q) hs 162
  refine MC.does true (does_ext rfl (Post := fun v w' => v = .iface 162 (.map (some q')) ∧ Sat (mp q' m :: F) w') ⟨_, _, h1, rfl, hs1⟩) rfl ?_
  rintro _ w ⟨rfl, hs⟩
  refine MC.pure (f := true) (po_assertMap rfl) rfl ?_
  refine zz ?_
  refine MC.ret rfl ?_
  exact ⟨q', rfl, hs⟩
theorem ints_blk {F : List Assn} {t : TypeId} {v : Value} {l : List Nat} {n : Nat} {w : World} (hs : Sat (sl v t 1 n (bufV l) :: F) w) (h0 : 0 < n) : ∃ b c sp, v = .slice (some ⟨b, 0, none⟩) n c ∧ n ≤ c ∧ l.length + sp.length = c ∧ Sat (blk b (bufV l ++ sp) t :: F) w := by
  rcases hs.sl_cases with h | h
  · omega
  · obtain ⟨b, c, sp, rfl, h1, h2, h3, hs⟩ := h
    exact ⟨b, c, sp, rfl, h1, by rw [bufV_length] at h3; omega, hs⟩
section
variable {F : List Assn} {z : Pw} {s : St} {mk : Option (Nat × St)} {w : World}
theorem br_ptr_self {P : Program} {t e : TypeId} {agg : Bool} {size bytes : Nat} {zero : List Value} [h : TyU P t (.pointer e)] [hI : TyI P e agg size bytes zero] {b o : Nat} : Bin P .neq t (.pointer (some ⟨b, o, none⟩)) (.pointer (some ⟨b, o, none⟩)) (.bool false) := fun _ _ w => by
  have h : (Op.equal t (.pointer (some ⟨b, o, none⟩)) (.pointer (some ⟨b, o, none⟩))).run P w = .ok true w := by
    unfold Op.equal Op.maxDepth Op.equalIn
    rw [Sem.run_bind, TyU.run (t := t) w]
    simp [TyI.run_size (P := P) (t := e) w, sameAddr]
  simp [eqGuard, binOp, h]
theorem mark_spec (hs : Sat (pgr z s none :: F) w) :
    Ret Tryz.prog 45 [ptr z.p] w fun v w' => ∃ m, v = ptr m ∧ Sat (pgr z s (some (m, s)) :: F) w' := by
  obtain ⟨g, hg, hz, hs⟩ := pgr_open hs
  have hx := hg.x
  have hn := hx.few
  have hnone := pnone_spec (p := z.p) hs
  refine Ret.enter [(true, ptr z.p)] _ Tryz.func45 rfl Tryz.ntmps45 rfl ?_
  refine zz ?_
  refine zc rfl (hnone) ?_
  rintro _ w ⟨rfl, rfl⟩
  refine zz ?_
  refine MC.draw hs [0, 1, 2, 3, 4, 5, 6, 7, 8, 10, 11, 12, 13, 9, 14, 15, 16, 17] (by rfl) ?_; intro w hs
  refine zd ?_
  refine MC.doesK true (does_call rfl (iclone_spec (b := g.x.kb) hs rfl (by omega) hx.cap)) rfl rfl rfl ?_
  intro va w hs
  refine zh ?_
  obtain ⟨kb, kc, sp, rfl, hc1, hc2, hs⟩ := ints_blk hs hx.pos
  refine zd ?_
  refine MC.doesK true (does_call rfl (mclone_spec (q := g.x.mb) hs)) rfl rfl rfl ?_
  rintro _ w ⟨mb, rfl, hs⟩
  refine zh ?_
  refine zd ?_
  refine MC.pure (f := true) (po_build (ls := [(0, [ptr z.p]), (1, [int g.round]), (2, [.slice (some ⟨kb, 0, none⟩) s.kinds.length kc]), (3, [.map (some mb)])]) (out := [ptr z.p, int g.round, .slice (some ⟨kb, 0, none⟩) s.kinds.length kc, .map (some mb)]) rfl rfl ⟨⟨_, rfl, by simp⟩, ⟨_, rfl, by simp⟩, ⟨_, rfl, by simp⟩, ⟨_, rfl, by simp⟩, trivial⟩ rfl) rfl ?_
  refine MC.doesK true (does_box hs rfl rfl) rfl rfl rfl ?_
  rintro _ w ⟨m, rfl, hs⟩
  refine zh ?_
  refine zd ?_
  refine MC.ret rfl ?_
  have hs := hs.pickF 10 [0, 2, 1, 3, 4, 5, 6, 7, 8, 9] rfl rfl
  have hs := (Sat.restar (l := [_, _, _]) hs).pickF 8 [7, 1, 2, 3, 4, 5, 6, 0] rfl rfl
  have hs := hs.tail
  have hy : (⟨kb, kc, sp, mb, g.x.m⟩ : Half).ok z.E s g.pool z.H := ⟨hx.pos, hx.few, hc1, hc2, hx.small, hx.has, hx.held⟩
  exact ⟨m, rfl, pgr_shut (g := ⟨g.x, ⟨kb, kc, sp, mb, g.x.m⟩, g.round, g.touched, g.pool⟩) ⟨hx, hy⟩ hz hs⟩
theorem back_spec {m : Nat} {s0 : St} (hs : Sat (pgr z s (some (m, s0)) :: F) w) :
    Ret Tryz.prog 51 [ptr z.p, ptr m] w fun v w' => v = int 0 ∧ Sat (pgr z s0 (some (m, s0)) :: F) w' := by
  obtain ⟨g, hg, hz, hs⟩ := pgr_open hs
  have hx := hg.x
  have hn := hx.few
  have hnone := pnone_spec (p := z.p) hs
  refine Ret.enter [(true, ptr z.p), (true, ptr m)] _ Tryz.func51 rfl Tryz.ntmps51 rfl ?_
  refine zz ?_
  refine zc rfl (hnone) ?_
  rintro _ w ⟨rfl, rfl⟩
  refine zz ?_
  obtain ⟨hx, hy⟩ := hg
  dsimp only [] at hy
  have hn2 := hy.few
  have hs := (hs.pickF 7 [6, 0, 1, 2, 3, 4, 5] rfl rfl)
  have hs := Sat.unstar (l := [_, _, _]) hs
  dsimp only [List.cons_append, List.nil_append] at hs
  refine MC.draw hs [0, 1, 2, 3, 4, 5, 6, 7, 8, 9, 10, 11, 12, 13, 14, 15, 16, 17] (by rfl) ?_; intro w hs
  refine zd ?_
  refine MC.pure (f := true) (po_bin rfl rfl br_ptr_self) rfl ?_
  refine zd ?_
  refine zz ?_
  refine MC.draw hs [0, 1, 2, 3, 4, 5, 7, 8, 9, 10, 6, 11, 12, 13, 14, 15, 16, 17] (by rfl) ?_; intro w hs
  refine zd ?_
  refine MC.doesK true (does_call rfl (iclone_spec (b := g.y.kb) hs rfl (by omega) hy.cap)) rfl rfl rfl ?_
  intro va w hs
  refine zh ?_
  obtain ⟨kb, kc, sp, rfl, hc1, hc2, hs⟩ := ints_blk hs hy.pos
  refine zd ?_
  refine MC.doesK true (does_call rfl (mclone_spec (q := g.y.mb) hs)) rfl rfl rfl ?_
  rintro _ w ⟨mb, rfl, hs⟩
  refine zh ?_
  refine zd ?_
  refine MC.doesK true (does_store1 hs rfl rfl rfl (by first | decide | (simp; done) | (simp; omega))) rfl rfl rfl ?_; intro _ w hs; refine zh ?_
  refine zd ?_
  refine MC.doesK true (does_store1 hs rfl rfl rfl (by first | decide | (simp; done) | (simp; omega))) rfl rfl rfl ?_; intro _ w hs; refine zh ?_
  refine zd ?_
  refine zz ?_
  refine MC.ret rfl ?_
  have hs := hs.pickF 11 [2, 3, 4, 5, 1, 0, 8, 9, 10, 6, 7] rfl rfl
  have hs := ((Sat.restar (l := [_, _, _]) hs).pickF 9 [7, 8, 1, 2, 3, 4, 5, 6, 0] rfl rfl).tail.tail
  have hx2 : (⟨kb, kc, sp, mb, g.y.m⟩ : Half).ok z.E s0 g.pool z.H := ⟨hy.pos, hy.few, hc1, hc2, hy.small, hy.has, hy.held⟩
  exact ⟨rfl, pgr_shutL (mk := some (m, s0)) (y := g.y) (r := g.round) (t := g.touched) (pool := g.pool) ⟨hx2, hy⟩ hz rfl hs⟩
end
end Go.Proofs.YtkccjgllanpebaaGreatDoor

namespace Go.Proofs.YtkccjgllanpebaaGreatDoor
open Go Go.Sl Go.Tr Go.Kv
attribute [local irreducible] LooksAt
theorem numK_len {m e : Int} (h : okN m e) : (numK m e).length ≤ 21 := by
  unfold numK
  split
  · decide
  · next h0 =>
    have := (dec_len (h.2 h0).1).2
    unfold digK
    simp only [List.length_append, List.length_cons, List.length_map, List.length_nil]
    omega
theorem keysK_len : ∀ ks : List Bs, (keysK ks).length ≤ 1 + 3 * (ks.map fun k => 1 + k.length).sum
  | [] => by simp [keysK]
  | k :: ks => by
    have := keysK_len ks
    have h2 := esc_len k
    have e : keysK (k :: ks) = 5 :: (textK k ++ keysK ks) := by simp [keysK, List.flatMap_cons]
    rw [e, List.map_cons, List.sum_cons]
    simp only [List.length_cons, List.length_append, textK, List.length_nil]
    omega
mutual
theorem putV_len : ∀ v : V, okV v → (putV v).length ≤ 25 * sizeV v
  | .mk k m e t l ks, h => by
    obtain ⟨h1, h2, h3, h4, h5, h6, h7, h8⟩ := h
    rw [putV, sizeV]
    have hn := numK_len h6
    have hl := putL_len l h8
    have hk := keysK_len ks
    have ht := esc_len t
    split
    · simp only [List.length_cons]; omega
    · split
      · simp only [List.length_cons, textK, List.length_append, List.length_nil]; omega
      · simp only [List.length_cons, List.length_append]
        split <;> split <;> (simp only [List.length_nil, List.length_cons]; omega)
theorem putL_len : ∀ l : List V, okL l → (putL l).length ≤ 25 * sizeL l
  | [], _ => by rw [putL]; simp
  | v :: l, h => by
    have := putV_len v h.1
    have := putL_len l h.2
    rw [putL, sizeL, List.length_append]; omega
end
theorem putL_snoc (v : V) : ∀ l : List V, putL (l ++ [v]) = putL l ++ putV v
  | [] => by simp [putL]
  | a :: l => by rw [List.cons_append, putL, putL_snoc v l, putL, List.append_assoc]
theorem okL_mem {l : List V} (h : okL l) {v : V} (hv : v ∈ l) : okV v := by
  induction l with
  | nil => cases hv
  | cons a l ih =>
    rcases List.mem_cons.1 hv with rfl | hv
    · exact h.1
    · exact ih h.2 hv
theorem keys_snoc (ks : List Bs) (k : Bs) : (ks ++ [k]).flatMap (fun k => 5 :: textK k) = ks.flatMap (fun k => 5 :: textK k) ++ (5 :: textK k) := by
  rw [List.flatMap_append]; simp
set_option maxHeartbeats 4000000 in
theorem put_spec : ∀ (v : V) {F : List Assn} {w : World} {r : List Value} {vo : Value} {ob : Bs} (hs : Sat (sl vo 5 1 ob.length (bytesV ob) :: F) w) (hT : Tabs F) (hv : VR F v r) (hz : sizeV v ≤ 1000) (hok : okV v) (ho : ob.length + 25 * sizeV v ≤ 100000),
    Ret Tryz.prog 16 [vo, .agg r.toArray] w fun u w' => Sat (sl u 5 1 (ob ++ putV v).length (bytesV (ob ++ putV v)) :: F) w' := by
  refine V.ind ?_
  intro k m e t l ks ih F w r vo ob hs hT hv hz hok ho
  have hv0 := hv
  obtain ⟨ql, qk, cl, ck, rows, rfl, hcl, hck, hl, hvl, hk, ⟨-, -, -, -, hik, him, hie⟩⟩ := hv.open_
  have hll := sizeL_len l
  obtain ⟨hz2, hz3, hz4⟩ := sizeV_sub (k := k) (m := m) (e := e) (t := t) (l := l) (ks := ks)
  have hok0 := hok
  obtain ⟨⟨k0, k6⟩, c2, c3, c4, c5, c6, c7, c8⟩ := hok
  obtain ⟨_, q, c, rfl, hc⟩ := hs.sl_len
  obtain ⟨P, hP⟩ : ∃ P, P = putV ⟨k, m, e, t, l, ks⟩ := ⟨_, rfl⟩
  rw [← hP]
  rw [putV] at hP
  have hkb : IntKind.u8.wrap (k + 1) = (((kindB k).toNat : Nat) : Int) := by
    unfold kindB
    rw [wrap_u8, nat_of_u8 (by omega)]; omega
  refine Ret.enter [(true, .slice q ob.length c), (true, .agg #[int k, int m, int e, str t, .slice ql l.length cl, .slice qk ks.length ck])] _ Tryz.func16 rfl Tryz.ntmps16 rfl ?_
  refine zz ?_
  refine MC.does true (does_box hs rfl rfl) rfl ?_; rintro _ w ⟨b3, rfl, hs⟩
  refine zz ?_
  rw [hkb]
  refine MC.does true (does_buildL hs rfl rfl rfl (all1 rfl) rfl) rfl ?_; rintro _ w ⟨b1, rfl, hs⟩
  refine MC.does true (does_append hs rfl rfl (src_at rfl (all1 rfl)) (by omega) (by omega)) rfl ?_
  intro va w hs
  obtain ⟨pre, hpre⟩ : ∃ pre, pre = ob ++ [kindB k] := ⟨_, rfl⟩
  have hs := sl_eq (l := pre) (hs.pickF 3 [2, 1] rfl rfl) rfl (by rw [hpre]; simp) (by rw [hpre, bytesV_app]; rfl)
  have hpl : pre.length = ob.length + 1 := by rw [hpre]; simp
  obtain ⟨_, q2, cc2, rfl, hc2⟩ := hs.sl_len
  by_cases h3 : k = 3
  · rw [if_pos h3] at hP
    refine zz ?_
    refine MC.la true (la_loadV hs rfl (vs := [int m, int e]) rfl rfl rfl) rfl ?_
    refine zz ?_
    refine zc rfl (digits_spec hs hT.up (by omega) him c6) ?_
    intro vd w hs
    refine zz ?_
    refine MC.ret rfl ?_
    have e1 : ob ++ P = pre ++ numK m e := by rw [hP, hpre]; simp
    rw [e1]
    exact hs.pickF 2 [0] rfl rfl
  rw [if_neg h3] at hP
  by_cases h4 : k = 4
  · rw [if_pos h4] at hP
    refine zz ?_
    refine zc rfl (text_spec hs (by omega) (by omega)) ?_
    intro vd w hs
    refine zz ?_
    refine MC.ret rfl ?_
    have e1 : ob ++ P = pre ++ textK t := by rw [hP, hpre]; simp
    rw [e1]
    exact hs.pickF 2 [0] rfl rfl
  rw [if_neg h4] at hP
  refine zz ?_
  have hlen := putV_len _ hok0
  rw [putV, if_neg h3, if_neg h4] at hlen
  simp only [List.length_cons, List.length_append] at hlen
  obtain ⟨RV, hRV⟩ : ∃ RV, RV = [int k, int m, int e, str t, .slice ql l.length cl, .slice qk ks.length ck] := ⟨_, rfl⟩
  rw [← hRV] at hs
  obtain ⟨pre2, hpre2⟩ : ∃ pre2, pre2 = pre ++ (if k = 6 then keysK ks else []) := ⟨_, rfl⟩
  have hp2l : pre2.length ≤ ob.length + 25 * sizeV ⟨k, m, e, t, l, ks⟩ := by
    rw [hpre2, List.length_append]; omega
  refine MC.cutAtS (σ := Value) 1 (fun vx => [(0, true, vx), (3, true, ptr b3)]) (fun vx w => Sat (sl vx 5 1 pre2.length (bytesV pre2) :: blk b3 RV 32 :: F) w) rfl ?_ ?_
  rotate_left
  · (try dsimp only [List.drop_succ_cons, List.drop_zero, List.take_succ_cons, List.take_zero, List.cons_append, List.nil_append])
    rcases Int.decEq k 6 with h6 | h6
    · rw [if_neg h6, List.append_nil] at hpre2
      refine zz ?_
      exact MC.meetS (Value.slice q2 pre.length cc2) zi (by rw [hpre2]; exact hs)
    · rw [if_pos h6] at hpre2
      have hkl := keysK_len ks
      have hs0 : Sat (sl (.slice q2 pre.length cc2) 5 1 (pre ++ (ks.take 0).flatMap fun k => 5 :: textK k).length (bytesV (pre ++ (ks.take 0).flatMap fun k => 5 :: textK k)) :: blk b3 RV 32 :: F) w := by
        have e : (pre ++ (ks.take 0).flatMap fun k => 5 :: textK k) = pre := by simp
        rw [e]; exact hs
      subst hRV
      refine zz ?_
      refine MC.loop (σ := Nat × Value) (fun x => [(0, true, x.2), (3, true, ptr b3), (33, true, .slice qk ks.length ck), (34, true, int ((ks.length : Nat) : Int)), (35, true, int ((x.1 : Nat) : Int))])
        (fun x w => x.1 ≤ ks.length ∧ Sat (sl x.2 5 1 (pre ++ (ks.take x.1).flatMap fun k => 5 :: textK k).length (bytesV (pre ++ (ks.take x.1).flatMap fun k => 5 :: textK k)) :: blk b3 [int k, int m, int e, str t, .slice ql l.length cl, .slice qk ks.length ck] 32 :: F) w) (fun x => ks.length - x.1) (0, .slice q2 pre.length cc2) zi ⟨Nat.zero_le _, hs0⟩ ?_
      clear hs hs0
      rintro ⟨i, vx⟩ w ⟨hi, hs⟩
      dsimp only [] at hi hs ⊢
      obtain ⟨_, q3, c3', rfl, hc3⟩ := hs.sl_len
      have hpk : ∀ i, (pre ++ (ks.take i).flatMap fun k => 5 :: textK k).length ≤ pre2.length := fun i => by
        rw [hpre2, List.length_append, List.length_append]
        have h1 : (keysK ks).length = (ks.flatMap fun k => 5 :: textK k).length + 1 := by unfold keysK; rw [List.length_append]; rfl
        have h2 : ((ks.take i).flatMap fun k => 5 :: textK k).length ≤ (ks.flatMap fun k => 5 :: textK k).length := by
          conv => rhs; rw [← List.take_append_drop i ks, List.flatMap_append, List.length_append]
          omega
        omega
      have hpi := hpk i
      rcases Nat.lt_or_ge i ks.length with hlt | hge
      · obtain ⟨bk, ok, rfl, hrk⟩ := hk.at_ (by omega)
        have hkl4 := hz4 _ (List.getElem_mem hlt)
        have htk : (ks.take (i + 1)).flatMap (fun k => 5 :: textK k) = (ks.take i).flatMap (fun k => 5 :: textK k) ++ (5 :: textK ks[i]) := by rw [List.take_succ_eq_append_getElem hlt, keys_snoc]
        obtain ⟨pi, hpi2⟩ : ∃ pi, pi = pre ++ (ks.take i).flatMap fun k => 5 :: textK k := ⟨_, rfl⟩
        rw [← hpi2] at hs hpi ⊢
        have e3 : pi ++ [5] ++ textK ks[i] = pre ++ (ks.take (i + 1)).flatMap fun k => 5 :: textK k := by rw [htk, hpi2]; simp
        refine zz ?_
        refine MC.la true (la_load1_rd hrk hs (j := ((i : Nat) : Int).toNat * 1) rfl (strsV_at hlt)) rfl ?_
        refine zz ?_
        refine MC.does true (does_buildL hs rfl rfl rfl (all1 rfl) rfl) rfl ?_; rintro _ w ⟨b1, rfl, hs⟩
        refine MC.does true (does_append hs rfl rfl (src_at rfl (all1 rfl)) (by omega) (by omega)) rfl ?_
        intro va w hs
        have hs := sl_eq (l := pi ++ [5]) hs.tail rfl (by simp) (by rw [bytesV_app]; rfl)
        refine zz ?_
        refine zc rfl (text_spec hs (by rw [List.length_append, List.length_singleton]; omega) (by omega)) ?_
        intro vb w hs
        refine zz ?_
        exact MC.again (i + 1, vb) zi ⟨hlt, by show Sat (sl _ _ 1 (pre ++ (ks.take (i + 1)).flatMap fun k => 5 :: textK k).length (bytesV (pre ++ (ks.take (i + 1)).flatMap fun k => 5 :: textK k)) :: _) _; rw [← e3]; exact hs⟩ (by show ks.length - (i + 1) < ks.length - i; omega)
      · obtain rfl : i = ks.length := by omega
        rw [List.take_length] at hs hpi ⊢
        obtain ⟨pi, hpi2⟩ : ∃ pi, pi = pre ++ ks.flatMap fun k => 5 :: textK k := ⟨_, rfl⟩
        rw [← hpi2] at hs hpi ⊢
        have e3 : pi ++ [0] = pre2 := by rw [hpre2, hpi2]; simp [keysK]
        refine zz ?_
        refine MC.does true (does_buildL hs rfl rfl rfl (all1 rfl) rfl) rfl ?_; rintro _ w ⟨b1, rfl, hs⟩
        refine MC.does true (does_append hs rfl rfl (src_at rfl (all1 rfl)) (by omega) (by omega)) rfl ?_
        intro va w hs
        have hs := sl_eq (l := pi ++ [0]) hs.tail rfl (by simp) (by rw [bytesV_app]; rfl)
        rw [e3] at hs
        refine zz ?_
        exact MC.meetS va zi hs
  · clear hs
    rintro vx w hs
    dsimp only [List.drop] at hs ⊢
    obtain ⟨_, q3, c3', rfl, hc3⟩ := hs.sl_len
    subst hRV
    have hPe : ob ++ P = pre2 ++ (putL l ++ if k = 5 then [0] else []) := by rw [hP, hpre2, hpre]; simp
    have hpz : (pre2 ++ putL l).length + (if k = 5 then 1 else 0) ≤ ob.length + 25 * sizeV ⟨k, m, e, t, l, ks⟩ := by
      rw [hpre2, List.length_append, List.length_append]
      split at hlen <;> split at hlen <;> simp_all <;> omega
    have hs0 : Sat (sl (.slice q3 pre2.length c3') 5 1 (pre2 ++ putL (l.take 0)).length (bytesV (pre2 ++ putL (l.take 0))) :: blk b3 [int k, int m, int e, str t, .slice ql l.length cl, .slice qk ks.length ck] 32 :: F) w := by
      have e : pre2 ++ putL (l.take 0) = pre2 := by simp [putL]
      rw [e]; exact hs
    refine zz ?_
    refine MC.cutAtS (σ := Value) 2 (fun vx => [(0, true, vx), (3, true, ptr b3)]) (fun vx w => Sat (sl vx 5 1 (pre2 ++ putL l).length (bytesV (pre2 ++ putL l)) :: blk b3 [int k, int m, int e, str t, .slice ql l.length cl, .slice qk ks.length ck] 32 :: F) w) rfl ?_ ?_
    rotate_left
    · (try dsimp only [List.drop_succ_cons, List.drop_zero, List.take_succ_cons, List.take_zero, List.cons_append, List.nil_append])
      refine MC.loop (σ := Nat × Value) (fun x => [(0, true, x.2), (3, true, ptr b3), (49, true, .slice ql l.length cl), (50, true, int ((l.length : Nat) : Int)), (51, true, int ((x.1 : Nat) : Int))])
        (fun x w => x.1 ≤ l.length ∧ Sat (sl x.2 5 1 (pre2 ++ putL (l.take x.1)).length (bytesV (pre2 ++ putL (l.take x.1))) :: blk b3 [int k, int m, int e, str t, .slice ql l.length cl, .slice qk ks.length ck] 32 :: F) w) (fun x => l.length - x.1) (0, .slice q3 pre2.length c3') zi ⟨Nat.zero_le _, hs0⟩ ?_
      clear hs hs0
      rintro ⟨i, vx⟩ w ⟨hi, hs⟩
      dsimp only [] at hi hs ⊢
      rcases Nat.lt_or_ge i l.length with hlt | hge
      · obtain ⟨bl, ol, rfl, hrl⟩ := hl.at_ (by omega)
        have hri : i < rows.length := by rw [hvl.len]; exact hlt
        have hvr := hvl.row i l[i] rows[i] (List.getElem?_eq_getElem hlt) (List.getElem?_eq_getElem hri)
        have hr6 := hvr.len
        have hat := flat_take hvl.six hri
        have hmem := List.getElem_mem hlt
        have hzi := sizeL_mem hmem
        have hoi := okL_mem c8 hmem
        have hih := fun {F : List Assn} {w : World} {r : List Value} {vo : Value} {ob : Bs} => @ih l[i] hmem F w r vo ob
        have htk : putL (l.take (i + 1)) = putL (l.take i) ++ putV l[i] := by rw [List.take_succ_eq_append_getElem hlt, putL_snoc]
        have hpil : (pre2 ++ putL (l.take i)).length + 25 * sizeV l[i] ≤ 100000 := by
          have h1 := putL_len (l.take i) (by
            have : ∀ (l : List V) (n : Nat), okL l → okL (l.take n) := fun l => by
              induction l with
              | nil => intro n _; simp [okL]
              | cons a l ih => intro n h; cases n with
                | zero => trivial
                | succ n => exact ⟨h.1, ih n h.2⟩
            exact this l i c8)
          have h2 : sizeL (l.take i) + sizeV l[i] ≤ sizeL l := by
            have e : l = l.take (i + 1) ++ l.drop (i + 1) := (List.take_append_drop _ _).symm
            have h3 : ∀ a b : List V, sizeL (a ++ b) = sizeL a + sizeL b := fun a b => by
              induction a with
              | nil => simp [sizeL]
              | cons x a ih => rw [List.cons_append, sizeL, ih, sizeL]; omega
            conv => rhs; rw [e, h3, List.take_succ_eq_append_getElem hlt, sizeL_snoc]
            omega
          have h4 : pre2.length + 25 * sizeL l ≤ ob.length + 25 * sizeV ⟨k, m, e, t, l, ks⟩ := by
            rw [hpre2, List.length_append, hpl, sizeV]
            have := keysK_len ks
            split <;> (try simp only [List.length_nil]) <;> omega
          rw [List.length_append]; omega
        obtain ⟨x, hx⟩ : ∃ x, l[i] = x := ⟨_, rfl⟩
        obtain ⟨r, hr⟩ : ∃ r, rows[i] = r := ⟨_, rfl⟩
        rw [hx] at hvr hzi hoi hih htk hpil
        rw [hr] at hvr hr6 hat
        obtain ⟨k1, m1, e1, t1, l1, ks1⟩ := x
        obtain ⟨ql1, qk1, cl1, ck1, rws, rfl, -⟩ := hvr.open_
        refine zz ?_
        refine MC.la true (la_loadV_rd hrl hs (j := ((i : Nat) : Int).toNat * 6) (vs := [int k1, int m1, int e1, str t1, .slice ql1 l1.length cl1, .slice qk1 ks1.length ck1]) rfl hat hr6 rfl) rfl ?_
        refine MC.does true (does_alloc hs) rfl ?_; rintro _ w ⟨b8, rfl, hs⟩
        refine zz ?_
        refine MC.does true (does_store (vs := [int k1, int m1, int e1, str t1, .slice ql1 l1.length cl1, .slice qk1 ks1.length ck1]) hs rfl rfl rfl rfl (all1 rfl) (by simp)) rfl ?_; intro _ w hs; rw [splice_all (by rfl)] at hs
        refine zz ?_
        refine MC.la true (la_loadV hs rfl (vs := [int k1, int m1, int e1, str t1, .slice ql1 l1.length cl1, .slice qk1 ks1.length ck1]) rfl rfl rfl) rfl ?_
        have hs := hs.swap
        refine zz ?_
        refine zc rfl (hih hs hT.up hvr.up (by omega) hoi hpil) ?_
        intro vb w hs
        rw [List.append_assoc, ← htk] at hs
        refine zz ?_
        exact MC.again (i + 1, vb) zi ⟨hlt, hs.pickF 3 [0, 2] rfl rfl⟩ (by show l.length - (i + 1) < l.length - i; omega)
      · obtain rfl : i = l.length := by omega
        rw [List.take_length] at hs
        refine zz ?_
        exact MC.meetS vx zi hs
    · clear hs hs0
      rintro vx w hs
      dsimp only [List.drop] at hs ⊢
      obtain ⟨_, q4, c4', rfl, hc4⟩ := hs.sl_len
      rcases Int.decEq k 5 with h5 | h5
      · rw [if_neg h5, List.append_nil] at hPe
        rw [hPe]
        refine zz ?_
        refine MC.ret rfl ?_
        exact hs.pickF 2 [0] rfl rfl
      · rw [if_pos h5, ← List.append_assoc] at hPe
        rw [if_pos h5] at hpz
        refine zz ?_
        refine MC.does true (does_buildL hs rfl rfl rfl (all1 rfl) rfl) rfl ?_; rintro _ w ⟨b1, rfl, hs⟩
        refine MC.does true (does_append hs rfl rfl (src_at rfl (all1 rfl)) (by omega) (by omega)) rfl ?_
        intro va w hs
        have hs := sl_eq (l := pre2 ++ putL l ++ [0]) (hs.pickF 3 [1] rfl rfl) rfl (by simp only [List.length_append, List.length_singleton]) (by rw [bytesV_app (pre2 ++ putL l)]; rfl)
        refine zz ?_
        refine MC.ret rfl ?_
        rw [hPe]
        exact hs
theorem bytes_spec {F : List Assn} {w : World} {v : V} {r : List Value} (hs : Sat F w) (hT : Tabs F) (hv : VR F v r) (hz : sizeV v ≤ 1000) :
    Ret Tryz.prog 6 [.agg r.toArray] w fun u w' => (rightV v ≠ 0 ∧ u = .tuple #[.slice none 0 0, int (rightV v)] ∧ Sat F w') ∨ (rightV v = 0 ∧ ∃ vb, u = .tuple #[vb, int 0] ∧ Sat (sl vb 5 1 (putV v).length (bytesV (putV v)) :: F) w') := by
  have hv0 := hv
  obtain ⟨k, m, e, t, l, ks⟩ := v
  obtain ⟨ql, qk, cl, ck, rows, rfl, -⟩ := hv.open_
  refine Ret.enter [(true, .agg #[int k, int m, int e, str t, .slice ql l.length cl, .slice qk ks.length ck])] _ Tryz.func6 rfl Tryz.ntmps6 rfl ?_
  refine zz ?_
  refine MC.does true (does_box hs rfl rfl) rfl ?_; rintro _ w ⟨b1, rfl, hs⟩
  refine zz ?_
  refine MC.la true (la_loadV hs rfl (vs := [int k, int m, int e, str t, .slice ql l.length cl, .slice qk ks.length ck]) rfl rfl rfl) rfl ?_
  refine zz ?_
  refine zc rfl (vright_spec hs hT.up hv0.up hz) ?_
  rintro _ w ⟨rfl, hs⟩
  by_cases h0 : rightV ⟨k, m, e, t, l, ks⟩ = 0
  · obtain ⟨hok, _, _⟩ := right_ok h0
    rw [h0]
    have hs := hs.sl_nil 5 1
    refine zz ?_
    refine MC.la true (la_loadV hs rfl (vs := [int k, int m, int e, str t, .slice ql l.length cl, .slice qk ks.length ck]) rfl rfl rfl) rfl ?_
    refine zz ?_
    refine zc rfl (put_spec _ (ob := []) hs hT.up hv0.up hz hok (by show 0 + _ ≤ _; omega)) ?_
    intro vb w hs
    refine zz ?_
    refine MC.ret rfl ?_
    exact .inr ⟨rfl, vb, rfl, hs.pickF 2 [0] rfl rfl⟩
  · obtain ⟨R, hR⟩ : ∃ R, rightV ⟨k, m, e, t, l, ks⟩ = R := ⟨_, rfl⟩
    rw [hR] at h0 ⊢
    refine zz ?_
    refine MC.ret rfl ?_
    exact .inl ⟨h0, rfl, hs.tail⟩
end Go.Proofs.YtkccjgllanpebaaGreatDoor

namespace Go.Proofs.YtkccjgllanpebaaGreatDoor
open Go Go.Sl Go.Tr
attribute [local irreducible] LooksAt
section
variable {F : List Assn} {z : Pw} {s : St} {mk : Option (Nat × St)} {w : World}
def liveK (live : List Nat) : List Nat := (List.range 300).map fun i => if 2 + i ∈ live then 2 else 0
theorem liveK_len (live : List Nat) : (liveK live).length = 300 := by simp [liveK]
theorem liveK_at (live : List Nat) {i : Nat} (h : i < 300) : (liveK live)[i]? = some (if 2 + i ∈ live then 2 else 0) := by
  simp [liveK, h]
theorem liveK_nil : liveK [] = List.replicate 300 0 := by
  apply List.ext_getElem?
  intro i
  rcases Nat.lt_or_ge i 300 with h | h
  · rw [liveK_at _ h, List.getElem?_replicate, if_pos h]; simp
  · rw [List.getElem?_eq_none (by rw [liveK_len]; exact h), List.getElem?_eq_none (by rw [List.length_replicate]; exact h)]
theorem liveK_snoc {live : List Nat} {i : Nat} (h : i < 300) : (liveK live).set i 2 = liveK (live ++ [2 + i]) := by
  apply List.ext_getElem?
  intro j
  rcases Nat.lt_or_ge j 300 with hj | hj
  · rw [liveK_at _ hj, List.getElem?_set, liveK_len]
    by_cases hij : i = j
    · subst hij; rw [if_pos rfl, if_pos h, if_pos (by simp)]
    · rw [if_neg hij, liveK_at _ hj]
      have : 2 + j ∈ live ++ [2 + i] ↔ 2 + j ∈ live := by simp; omega
      by_cases h2 : 2 + j ∈ live
      · rw [if_pos h2, if_pos (this.2 h2)]
      · rw [if_neg h2, if_neg (fun h => h2 (this.1 h))]
  · rw [List.getElem?_eq_none (by rw [List.length_set, liveK_len]; exact hj), List.getElem?_eq_none (by rw [liveK_len]; exact hj)]
theorem rep_kinds : rep 300 [int 0] = bufV (liveK []) ++ [] := by
  rw [rep_one, liveK_nil, List.append_nil]; unfold bufV; rw [List.map_replicate]; rfl
theorem pnew_spec {q pd n : Nat} {D : Dev} {sec : Nat → Bs} {vl : Value} {live : List Nat} (hs : Sat (cach q pd sec (fun _ => False) none :: dev pd D :: F) w) (hD : D.ok) (hO : D.O.length ≤ 100000) (h302 : D.S.length = 302)
    (hl : RdS F 1 vl live.length (bufV live)) (hin : ∀ k ∈ live, 2 ≤ k ∧ k < 302) (hnd : live.Nodup) (hn : live.length ≤ 1000) :
    Ret Tryz.prog 43 [ptr pd, ptr q, int 2, int 300, vl] w fun v w' => ∃ p, v = .tuple #[ptr p, int 0] ∧
      ∀ b, Sat (pgr ⟨p, q, pd, D, ⟨fun k => D.get k, decide (D.fuse = 1), 2⟩, fun k => k ∈ live⟩ ⟨liveK live, b⟩ none :: F) w' := by
  have hsz := size_spec (hs.pull 1 rfl)
  have hhe := held_spec hs
  obtain ⟨lp, lc, rfl, hlc, hll⟩ := hl.shape
  refine Ret.enter [(true, ptr pd), (true, ptr q), (true, int 2), (true, int 300), (true, .slice lp live.length lc)] _ Tryz.func43 rfl Tryz.ntmps43 rfl ?_
  refine zz ?_
  refine zc rfl (hsz) ?_
  rintro _ w ⟨rfl, rfl⟩
  refine zz ?_
  refine zc rfl (hhe) ?_
  rintro _ w ⟨a, n, c, rfl, hn0, hs⟩
  refine zz ?_
  refine MC.does true (does_makeSliceI 300 300 hs rfl rfl rfl rfl (Nat.le_refl _) (by omega) (by omega)) rfl ?_
  rintro _ w ⟨kb, rfl, hs⟩
  rw [rep_kinds] at hs
  refine zz ?_
  refine MC.does true (does_makeMap hs) rfl ?_
  rintro _ w ⟨mb, rfl, hs⟩
  refine MC.pure (f := true) (po_build (ls := [(0, [ptr pd]), (1, [ptr q]), (2, [int 2]), (3, [.slice (some ⟨kb, 0, none⟩) 300 300]), (4, [.map (some mb)])]) (out := [ptr pd, ptr q, int 2, .slice (some ⟨kb, 0, none⟩) 300 300, .map (some mb), int 0, int 0]) rfl rfl ⟨⟨_, rfl, by simp⟩, ⟨_, rfl, by simp⟩, ⟨_, rfl, by simp⟩, ⟨_, rfl, by simp⟩, ⟨_, rfl, by simp⟩, trivial⟩ rfl) rfl ?_
  refine MC.does true (does_box hs rfl rfl) rfl ?_
  rintro _ w ⟨p, rfl, hs⟩
  refine zz ?_
  have hs := hs.pickF 3 [0, 2, 1] rfl rfl
  refine MC.loop (σ := Nat) (fun i => [(2, true, int 2), (13, true, ptr p), (54, true, .slice lp live.length lc), (55, true, int ((live.length : Nat) : Int)), (56, true, int ((i : Nat) : Int))])
    (fun i w => i ≤ live.length ∧ Sat (pblk p pd q 2 (.slice (some ⟨kb, 0, none⟩) 300 300) mb 0 0 :: blk kb (bufV (liveK (live.take i)) ++ []) 3 :: mp mb [] :: cach q pd sec (fun _ => False) none :: dev pd D :: F) w) (fun i => live.length - i) 0 zi ⟨Nat.zero_le _, hs⟩ ?_
  clear hs
  rintro i w ⟨hi, hs⟩
  dsimp only [] at hi hs ⊢
  rcases Nat.lt_or_ge i live.length with hlt | hge
  · obtain ⟨lb, lo, rfl, hrl⟩ := hl.at_ (by omega)
    have hyat : (bufV live)[((i : Nat) : Int).toNat * 1]? = some (int ((live[i] : Nat) : Int)) := by
      rw [Int.toNat_natCast, Nat.mul_one]; simp [bufV, hlt]
    obtain ⟨hk2, hk4⟩ := hin live[i] (List.getElem_mem hlt)
    obtain ⟨j, hj⟩ : ∃ j, live[i] = 2 + j := ⟨live[i] - 2, by omega⟩
    have hnot : 2 + j ∉ live.take i := by
      intro hm
      obtain ⟨i2, hi2, he⟩ := List.mem_iff_getElem.1 hm
      rw [List.length_take] at hi2
      rw [List.getElem_take, ← hj] at he
      exact List.pairwise_iff_getElem.1 hnd i2 i (by omega) hlt (by omega) he
    have hki := kind_spec (p := p) (b := kb) (l := liveK (live.take i)) (n := 300) hs (liveK_len _) (by omega) live[i] (by omega)
    refine zz ?_
    refine MC.la true (la_load1_rd hrl hs (j := ((i : Nat) : Int).toNat * 1) rfl hyat) rfl ?_
    refine zz ?_
    refine zc rfl (hki) ?_
    rintro _ w ⟨rfl, hs⟩
    rw [if_neg (by omega), show live[i] - 2 = j by omega, liveK_at _ (by omega), if_neg hnot]
    dsimp only [kindI]
    refine zz ?_
    refine MC.does true (does_store1 hs rfl rfl rfl (by rw [List.length_append, bufV_length, liveK_len]; omega)) rfl ?_; intro _ w hs
    rw [show 0 + (((live[i] : Nat) : Int) - 2).toNat * 1 = j by omega, bufV_put (v := .int .i64 2) 2 (by rw [liveK_len]; omega) rfl, liveK_snoc (by omega), ← hj, ← List.take_succ_eq_append_getElem hlt] at hs
    refine zz ?_
    exact MC.again (i + 1) zi ⟨hlt, hs⟩ (by omega)
  · obtain rfl : i = live.length := by omega
    refine zz ?_
    refine MC.ret rfl ?_
    refine ⟨p, rfl, fun b => ?_⟩
    rw [List.take_length] at hs
    have hs := bods_nil (t := 5) (hs.pickF 5 [3, 4, 0, 1, 2] rfl rfl)
    have hs := (cach_less (sec' := fun k => D.get k) (H' := fun k => k ∈ live) (fun k h => h.elim) (hs.pickF 3 [1, 0, 2] rfl rfl))
    have hs := devr_shut (D := D) (rd := D.reads) (hs.pickF 3 [2, 0, 1] rfl rfl)
    have hs := Sat.restar (l := []) hs
    have hx : (⟨kb, 300, [], mb, []⟩ : Half).ok ⟨fun k => D.get k, decide (D.fuse = 1), 2⟩ ⟨liveK live, b⟩ [] (fun k => k ∈ live) := by
      have hkd : ∀ k, St.kind ⟨fun k => D.get k, decide (D.fuse = 1), 2⟩ ⟨liveK live, b⟩ k = if 2 ≤ k ∧ k < 302 then some (if k ∈ live then 2 else 0) else none := fun k => by
        unfold St.kind
        dsimp only []
        by_cases h1 : k < 2
        · rw [if_pos h1, if_neg (by omega)]
        · rw [if_neg h1]
          by_cases h2 : k < 302
          · rw [liveK_at _ (by omega), if_pos (show 2 ≤ k ∧ k < 302 from ⟨by omega, h2⟩), show 2 + (k - 2) = k by omega]
          · rw [if_neg (by omega), List.getElem?_eq_none (by rw [liveK_len]; omega)]
      refine ⟨by rw [liveK_len]; decide, by rw [liveK_len]; show 2 + 300 ≤ 100000; decide, by rw [liveK_len]; exact Nat.le_refl _, by rw [liveK_len]; rfl, fun c hc => ?_, fun k hk => ?_, fun k => ?_⟩
      · obtain ⟨i, _, rfl⟩ := List.mem_map.1 hc
        split <;> omega
      · rw [hkd] at hk
        split at hk
        · have := Option.some.inj hk
          split at this <;> omega
        · cases hk
      · rw [hkd]
        constructor
        · intro h
          rw [if_pos (hin k h), if_pos h]; exact .inl rfl
        · intro h
          by_cases h2 : 2 ≤ k ∧ k < 302
          · rw [if_pos h2] at h
            by_cases h3 : k ∈ live
            · exact h3
            · rw [if_neg h3] at h; rcases h with h | h <;> cases h
          · rw [if_neg h2] at h; rcases h with h | h <;> cases h
    refine pgr_shutL (z := ⟨p, q, pd, D, ⟨fun k => D.get k, decide (D.fuse = 1), 2⟩, fun k => k ∈ live⟩) (s := ⟨liveK live, b⟩) (mk := none) (y := ⟨0, 0, [], 0, []⟩) (r := 0) (t := 0) (pool := []) ⟨hx, trivial⟩ ⟨hD, hO, fun k hk => by rw [h302]; exact (hin k hk).2, fun k _ => rfl, by simp⟩ (liveK_len _) ?_
    exact hs.pickF 7 [4, 5, 6, 3, 2, 1, 0] rfl rfl
end
end Go.Proofs.YtkccjgllanpebaaGreatDoor
