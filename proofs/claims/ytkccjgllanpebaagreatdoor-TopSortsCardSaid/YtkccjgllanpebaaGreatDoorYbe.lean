/-
  Reading a key: Read | Stretches of a tree: read, value, what Range tells | Trees: cell, put, save
-/
import Derived.Test.YtkccjgllanpebaaGreatDoorYbd
import Derived.Test.YtkccjgllanpebaaGreatDoorYan
import Derived.Test.YtkccjgllanpebaaGreatDoorYaq
import Derived.Test.YtkccjgllanpebaaGreatDoorYap
import Derived.RecoverIn
set_option maxHeartbeats 1000000
set_option linter.unusedVariables false
set_option linter.unusedSimpArgs false
namespace Go.Proofs.YtkccjgllanpebaaGreatDoor
open Go Go.Sl Go.Tr Go.Kv Go.Ms
attribute [local irreducible] LooksAt
theorem run_equal_iface_nil {P : Program} {t : TypeId} {u : Array (String × TypeId)} [h : TyU P t (.interface u)] (w : World) : (Op.equal t .nilIface .nilIface).run P w = .ok true w := by
  unfold Op.equal Op.maxDepth Op.equalIn
  rw [Sem.run_bind, TyU.run (t := t) w]
  simp
theorem run_neq_nil {P : Program} {t yt ty : TypeId} {pos : String} {aft : Array Edge} {d : Option Tmp} {u : Array (String × TypeId)} [h : TyU P t (.interface u)] {a : Act} {x : Operand} (hx : a.eval x = .nilIface) (w : World) :
    (execOp a.eval ⟨d, .binOp .neq t x (.const .nilIface) yt, ty, pos, aft, none⟩).run P w = .ok (.value (.bool false)) w := by
  have e : a.eval (.const .nilIface) = .nilIface := rfl
  simp [execOp, hx, e, eqGuard, binOp, run_equal_iface_nil (P := P) (t := t) (u := u) w]
theorem opsS_recover {F : Fence} {n : Nat} {P : Program} {Q : Exit → Act → List Frame → World → Prop} {a : Act} {cs : List Frame} {w : World} {ops : Array Oper} {i : Nat} {rest : List Nat} {o : Oper} (ho : ops[i]? = some o) (hg : o.guard = none) (hF : ∀ f, F.fn f)
    (hr : (execOp a.eval o).run P w = .ok .recover w) (hc : recoverD cs = none) (h : wpOpsSIn F n P ops Q rest (a.put o.dst .nilIface) cs w) : wpOpsSIn F n P ops Q (i :: rest) a cs w := by
  simp only [wpOpsSIn, ho]
  refine ⟨fun f _ => hF f, ?_⟩
  rw [if_pos (by simp [Region.wanted, hg]), hr]
  dsimp only
  rw [hc]
  exact h
theorem opsS_value {F : Fence} {n : Nat} {P : Program} {Q : Exit → Act → List Frame → World → Prop} {a : Act} {cs : List Frame} {w : World} {ops : Array Oper} {i : Nat} {rest : List Nat} {o : Oper} {v : Value} (ho : ops[i]? = some o) (hg : o.guard = none) (hF : ∀ f, F.fn f)
    (hr : (execOp a.eval o).run P w = .ok (.value v) w) (h : wpOpsSIn F n P ops Q rest (a.put o.dst v) cs w) : wpOpsSIn F n P ops Q (i :: rest) a cs w := by
  simp only [wpOpsSIn, ho]
  refine ⟨fun f _ => hF f, ?_⟩
  rw [if_pos (by simp [Region.wanted, hg]), hr]
  exact h
theorem run_results0 {P : Program} {fn : Func} {tmps : Array Value} {w : World} (h : fn.results = #[]) : (results fn tmps).run P w = .ok (.tuple #[]) w := by
  unfold results
  rw [h]
  simp
instance tyAny : TyU Tryz.prog 20 (.interface #[]) := ⟨Tryz.underlying20⟩
theorem read1_spec {w : World} {a b c : Value} {Q : World → Prop} (h : Q w) : RetD Tryz.prog 36 [a, b, c] w Q := by
  refine callsDIn_of_wpSIn Tryz.func36 rfl trivial fun c₀ cs hc => ?_
  refine wpSIn_seq (wpSIn_region ?_)
  have hr : recoverD (c₀ :: cs) = none := by unfold recoverD; simp [hc]
  change wpOpsSIn _ _ _ _ _ [0, 1] _ _ _
  refine opsS_recover rfl rfl (fun _ => trivial) rfl hr ?_
  refine opsS_value rfl rfl (fun _ => trivial) (run_neq_nil (u := #[]) rfl w) ?_
  show Code.wpSIn _ _ _ _ _ _ _ _
  refine wpSIn_cond (t := false) rfl ?_
  refine wpSIn_of_wpIn rfl ?_
  refine wpIn_skip ?_
  refine ⟨rfl, .returning, by rw [← hc], .tuple #[], run_results0 rfl, rfl, _, rfl, h⟩
set_option maxHeartbeats 4000000 in
theorem kread_spec {v : V} {F F0 : List Assn} {r0 : List Value} {vb : Value} {w : World} (hs : Sat F w) (hT : Tabs F) (hb : RdS F 1 vb (putV v).length (bytesV (putV v))) (hv : VR F0 v r0) (hr : rightV v = 0) (hz : sizeV v ≤ 1000) :
    Ret Tryz.prog 12 [vb] w fun u w' => ∃ (r : List Value) (G : List Assn), u = .tuple #[.agg r.toArray, int (((putV v).length : Nat) : Int), int 0] ∧ VR G v r ∧ Sat (G ++ F) w' := by
  obtain ⟨hok, hsh, hmay⟩ := right_ok hr
  have hpl := putV_len v hok
  obtain ⟨k, m, e, t, l, ks⟩ := v
  obtain ⟨P, hP⟩ : ∃ P, putV (.mk k m e t l ks) = P := ⟨_, rfl⟩
  rw [hP] at hb hpl ⊢
  obtain ⟨q, c, rfl, hcap, _⟩ := hb.shape
  refine Ret.enterM [(true, .slice q P.length c)] _ Tryz.func12 rfl Tryz.ntmps12 rfl ?_
  refine zz ?_
  refine MC.does true (does_alloc hs) rfl ?_; rintro _ w ⟨b2, rfl, hs⟩
  refine zz ?_
  refine MC.does true (does_alloc hs) rfl ?_; rintro _ w ⟨b3, rfl, hs⟩
  refine zz ?_
  refine MC.does true (does_alloc hs) rfl ?_; rintro _ w ⟨b4, rfl, hs⟩
  refine zz ?_
  refine MC.pure (f := true) (po_makeFunc rfl rfl) rfl ?_
  refine MC.defer (f := 36) (first := []) (cap := [ptr b2, ptr b3, ptr b4]) (vs := []) rfl rfl rfl ?_
  refine zz ?_
  refine MC.pure (f := true) (po_build (ls := [(0, [.slice q P.length c])]) (out := [.slice q P.length c, int 0]) rfl rfl ⟨⟨_, rfl, by simp⟩, trivial⟩ rfl) rfl ?_
  refine zz ?_
  refine MC.does true (does_box hs rfl rfl) rfl ?_; rintro _ w ⟨br, rfl, hs⟩
  refine zz ?_
  have hrv := rvalue_spec (.mk k m e t l ks) (br := br) (i := 0) (d := 48) (pre := []) (rest := []) (b := P) (n := P.length) (q := q) (c := c) hs hT.up hb.up (by rw [hP]; simp) rfl rfl (by omega) hv hok hz hsh (by decide)
  refine zc rfl (hrv) ?_
  rintro _ w ⟨r, G, rfl, hG, hs⟩
  have hG0 := hG
  obtain ⟨ql, qk, cl, ck, rws, rfl, -⟩ := hG.open_
  have hs : Sat (rdr br q P.length c (0 + P.length) :: blk b4 [int 0] 34 :: blk b3 [int 0] 3 :: blk b2 [int 0, int 0, int 0, str [], .slice none 0 0, .slice none 0 0] 32 :: (G ++ F)) w := by
    have hs := hs
    rw [hP] at hs
    exact Sat.perm (List.Perm.cons _ (List.perm_append_comm_assoc G [_, _, _] F)) hs
  rw [Nat.zero_add] at hs
  refine zz ?_
  refine MC.does true (does_store (vs := [int k, int m, int e, str t, .slice ql l.length cl, .slice qk ks.length ck]) hs rfl rfl rfl rfl (all1 rfl) (by simp)) rfl ?_; intro _ w hs; rw [splice_all (by rfl)] at hs
  refine zz ?_
  refine MC.draw hs [0, 1, 2, 3, 4, 6, 7, 8, 9, 10, 11, 5, 12, 13, 14] (by rfl) ?_; intro w hs
  haveI i1 : Suf (G ++ F) F := suf_app G F
  haveI i2 : Suf (G ++ F) G := suf_left G F
  refine MC.laD true (la_loadV hs rfl (vs := [int k, int m, int e, str t, .slice ql l.length cl, .slice qk ks.length ck]) rfl rfl rfl) rfl ?_
  refine zd ?_
  refine MC.doesK true (does_call rfl (vright_spec hs hT.up hG0.up hz)) rfl rfl rfl ?_
  rintro _ w ⟨rfl, hs⟩; refine zh ?_
  rw [hr]
  refine zd ?_
  refine MC.laD true (la_loadV hs rfl (vs := [int k, int m, int e, str t, .slice ql l.length cl, .slice qk ks.length ck]) rfl rfl rfl) rfl ?_
  refine zd ?_
  refine MC.pure (f := true) (po_slice_hi (b := P.length) rfl rfl (by omega)) rfl ?_
  refine zd ?_
  have hs := hs.sl_nil 5 1
  refine MC.doesK true (does_call rfl (put_spec _ (ob := []) hs hT.up hG0.up hz hok (by show 0 + _ ≤ _; omega))) rfl rfl rfl ?_
  intro vp w hs; refine zh ?_
  rw [hP, List.nil_append] at hs
  obtain ⟨_, qp, cp, rfl, _⟩ := hs.sl_len
  refine zd ?_
  refine MC.doesK true (does_call rfl (equal_spec hs (RdS.of_sl hs).up hb.up)) rfl rfl rfl ?_
  rintro _ w ⟨rfl, rfl⟩; refine zh ?_
  rw [show decide (P = P) = true from decide_eq_true rfl]
  refine zd ?_
  refine zz ?_
  refine MC.draw hs [0, 1, 2, 3, 4, 5, 6, 7] (by rfl) ?_; intro w hs
  refine zd ?_
  refine MC.laD true (la_loadV hs rfl (vs := [int k, int m, int e, str t, .slice ql l.length cl, .slice qk ks.length ck]) rfl rfl rfl) rfl ?_
  refine zd ?_
  refine MC.doesL true (does_store (vs := [int k, int m, int e, str t, .slice ql l.length cl, .slice qk ks.length ck]) hs rfl rfl rfl rfl (all1 rfl) (by simp)) rfl rfl rfl rfl ?_; intro _ w hs; rw [splice_all (by rfl)] at hs; refine zh ?_
  refine zd ?_
  refine MC.doesL true (does_store1 hs rfl rfl rfl (by simp)) rfl rfl rfl rfl ?_; intro _ w hs; refine zh ?_
  refine zd ?_
  refine MC.doesL true (does_store1 hs rfl rfl rfl (by simp)) rfl rfl rfl rfl ?_; intro _ w hs; refine zh ?_
  refine zd ?_
  refine zz ?_
  have hs := hs.pickF 5 [2, 3, 4] rfl rfl
  have hs2 : Sat (blk b4 [int 0] 34 :: blk b3 [int ((P.length : Nat) : Int)] 3 :: blk b2 [int k, int m, int e, str t, .slice ql l.length cl, .slice qk ks.length ck] 32 :: (G ++ F)) w := hs
  have hrd1 := read1_spec (a := ptr b2) (b := ptr b3) (c := ptr b4) (Q := fun w' => Sat (blk b4 [int 0] 34 :: blk b3 [int ((P.length : Nat) : Int)] 3 :: blk b2 [int k, int m, int e, str t, .slice ql l.length cl, .slice qk ks.length ck] 32 :: (G ++ F)) w') hs2
  refine MC.retD (f := 36) (args := ([] : List Value) ++ []) (cap := [ptr b2, ptr b3, ptr b4]) (show RetD Tryz.prog 36 ((([] : List Value) ++ []) ++ [ptr b2, ptr b3, ptr b4]) w _ from hrd1) ?_
  rintro w' hq a0 hf'
  exact ⟨_, run_resultsC (vs := [.agg #[int k, int m, int e, str t, .slice ql l.length cl, .slice qk ks.length ck], int ((P.length : Nat) : Int), int 0]) hf' ⟨⟨⟨b2, 0, none⟩, rfl, load_cellA hq rfl⟩, ⟨⟨b3, 0, none⟩, rfl, load_cell (agg := false) (cs := [int ((P.length : Nat) : Int)]) hq rfl⟩, ⟨⟨b4, 0, none⟩, rfl, load_cell (agg := false) (cs := [int 0]) hq rfl⟩, trivial⟩, _, G, rfl, hG0, hq.tail.tail.tail⟩
end Go.Proofs.YtkccjgllanpebaaGreatDoor

namespace Go.Proofs.YtkccjgllanpebaaGreatDoor
open Go Go.Sl Go.Tr
attribute [local irreducible] LooksAt
def PrR (F : List Assn) (k : Bs) (r : List Value) : Prop := ∃ vk vv, r = [vk, vv] ∧ RdS F 1 vk k.length (bytesV k)
structure PL (F : List Assn) (l : List Bs) (rows : List (List Value)) : Prop where
  len : rows.length = l.length
  row : ∀ (i : Nat) k r, l[i]? = some k → rows[i]? = some r → PrR F k r
theorem PL.nil (F : List Assn) : PL F [] [] := ⟨rfl, fun i k r h => by simp at h⟩
theorem PL.up {F G : List Assn} [hs : Suf G F] {l : List Bs} {rows : List (List Value)} (h : PL F l rows) : PL G l rows := ⟨h.len, fun i k r hk hr => by
  obtain ⟨vk, vv, h1, h2⟩ := h.row i k r hk hr
  exact ⟨vk, vv, h1, h2.up⟩⟩
theorem PL.app {F : List Assn} {l m : List Bs} {rows rows' : List (List Value)} (h : PL F l rows) (h' : PL F m rows') : PL F (l ++ m) (rows ++ rows') := by
  refine ⟨by rw [List.length_append, List.length_append, h.len, h'.len], fun i k r hk hr => ?_⟩
  have hl := h.len
  rcases Nat.lt_or_ge i l.length with hi | hi
  · rw [List.getElem?_append_left hi] at hk
    rw [List.getElem?_append_left (by omega)] at hr
    exact h.row i k r hk hr
  · rw [List.getElem?_append_right hi] at hk
    rw [List.getElem?_append_right (by omega), hl] at hr
    exact h'.row _ k r hk hr
theorem PL.one {F : List Assn} {k : Bs} {vk vv : Value} (h : RdS F 1 vk k.length (bytesV k)) : PL F [k] [[vk, vv]] := ⟨rfl, fun i k' r hk hr => by
  cases i with
  | zero => simp at hk hr; subst hk hr; exact ⟨_, _, rfl, h⟩
  | succ i => simp at hk⟩
theorem PL.two {F : List Assn} {l : List Bs} {rows : List (List Value)} (h : PL F l rows) : ∀ r ∈ rows, r.length = 2 := fun r hr => by
  obtain ⟨i, hi, rfl⟩ := List.mem_iff_getElem.1 hr
  have := h.len
  obtain ⟨vk, vv, h1, _⟩ := h.row i l[i] rows[i] (List.getElem?_eq_getElem (by omega)) (List.getElem?_eq_getElem hi)
  rw [h1]; rfl
theorem PL.cells {F : List Assn} {l : List Bs} {rows : List (List Value)} (h : PL F l rows) : rows.flatten.length = l.length * 2 := by
  have h2 := h.two
  have hl := h.len
  clear h
  rw [← hl]
  clear hl
  induction rows with
  | nil => rfl
  | cons r rows ih =>
    rw [List.flatten_cons, List.length_append, h2 r List.mem_cons_self, ih fun r hr => h2 r (List.mem_cons_of_mem _ hr), List.length_cons]; omega
section
variable {F : List Assn} {z : Pw} {s : St} {mk : Option (Nat × St)} {w : World}
theorem bread_spec {page hh : Nat} (hs : Sat (pgr z s mk :: F) w) (hp : page ≤ 100000) :
    Ret Tryz.prog 66 [ptr z.p, int ((page : Nat) : Int), int ((hh : Nat) : Int)] w (OutN (levelM z.E page (hh == 1)) z s mk F) := by
  refine Ret.enter [(true, ptr z.p), (true, int ((page : Nat) : Int)), (true, int ((hh : Nat) : Int))] _ Tryz.func66 rfl Tryz.ntmps66 rfl ?_
  refine zz ?_
  refine MC.does true (does_alloc hs) rfl ?_; rintro _ w ⟨b6, rfl, hs⟩
  refine zz ?_
  have hg := pget_spec hs.swap hp
  refine zc rfl (hg) ?_
  have hbad : ∀ {e : Int} {s' : St}, nodeM z.E page s (.err e) s' → levelM z.E page (hh == 1) s (.err e) s' := fun h => level_err h
  rintro _ w (⟨b, s', hm, vb, rfl, hbl, hs⟩ | ⟨e, s', he, hm, vb, rfl, hs⟩)
  · obtain ⟨_, q, cb, rfl, _⟩ := hs.sl_len
    have hs := hs.pickF 3 [0, 2, 1] rfl rfl
    have hrd := nread_spec hs (RdS.of_sl hs)
    refine zz ?_
    refine zc rfl (hrd) ?_
    intro v w hv
    cases hn : readN b with
    | none =>
      rw [hn] at hv
      obtain ⟨rfl, hs⟩ := hv
      refine zz ?_
      refine MC.does true (does_alloc hs) rfl ?_; rintro _ w ⟨b10, rfl, hs⟩
      refine zz ?_
      refine MC.does true (does_store (vs := [bool false, .slice none 0 0, .slice none 0 0, .slice none 0 0]) hs rfl rfl rfl rfl (all1 rfl) (by simp)) rfl ?_; intro _ w hs; rw [splice_all (by rfl)] at hs
      refine zz ?_
      refine MC.la true (la_loadV (vs := [bool false, .slice none 0 0, .slice none 0 0, .slice none 0 0]) hs rfl rfl rfl rfl) rfl ?_
      refine zz ?_
      refine MC.does true (does_store (vs := [bool false, .slice none 0 0, .slice none 0 0, .slice none 0 0]) hs rfl rfl rfl rfl (all1 rfl) (by simp)) rfl ?_; intro _ w hs; rw [splice_all (by rfl)] at hs
      refine zz ?_
      refine MC.retR (vs := [.agg [bool false, .slice none 0 0, .slice none 0 0, .slice none 0 0].toArray, int 200]) ⟨⟨⟨b6, 0, none⟩, rfl, load_cellA hs rfl⟩, rfl, trivial⟩ ?_
      exact .inr ⟨200, s', by decide, hbad (.inr ⟨b, s', hm, by dsimp only []; rw [hn]; exact ⟨rfl, rfl⟩⟩), _, _, _, _, _, _, _, _, _, _, rfl, hs.pickF 4 [3] rfl rfl⟩
    | some n =>
      rw [hn] at hv
      obtain ⟨y, pool, hin, hfew, rfl, hs⟩ := hv
      obtain ⟨sk, sv, si, rk, rv⟩ := y
      obtain ⟨_, qk, ck, rfl, _⟩ := (hs.pickF 4 [1, 0, 2, 3] rfl rfl).sl_len
      obtain ⟨_, qv, cv, rfl, _⟩ := (hs.pickF 4 [2, 0, 1, 3] rfl rfl).sl_len
      obtain ⟨_, qi, ci, rfl, _⟩ := (hs.pickF 4 [3, 0, 1, 2] rfl rfl).sl_len
      have hm : nodeM z.E page s (.ok n) s' := .inr ⟨b, s', hm, by dsimp only []; rw [hn]; exact ⟨rfl, rfl⟩⟩
      have hri := (readN_some hn).1
      refine zz ?_
      refine MC.does true (does_alloc hs) rfl ?_; rintro _ w ⟨b8, rfl, hs⟩
      refine zz ?_
      refine MC.does true (does_store (vs := [bool n.leaf, .slice qk n.keys.length ck, .slice qv n.vals.length cv, .slice qi n.kids.length ci]) hs rfl rfl rfl rfl (all1 rfl) (by simp)) rfl ?_; intro _ w hs; rw [splice_all (by rfl)] at hs
      refine zz ?_
      refine MC.pure (f := true) (po_bin rfl rfl br_bool_ne) rfl ?_
      have hl := level_of (low := hh == 1) hm
      have h1 : (decide (((hh : Nat) : Int) = 1)) = (hh == 1) := by
        rw [show (hh == 1) = decide (hh = 1) from rfl, decide_eq_decide]; omega
      rw [h1]
      by_cases hle : n.leaf = (hh == 1)
      · rw [if_pos hle] at hl
        rw [decide_eq_false (fun h => h hle)]
        refine zz ?_
        refine MC.la true (la_loadV (vs := [bool n.leaf, .slice qk n.keys.length ck, .slice qv n.vals.length cv, .slice qi n.kids.length ci]) hs rfl rfl rfl rfl) rfl ?_
        refine zz ?_
        refine MC.does true (does_store (vs := [bool n.leaf, .slice qk n.keys.length ck, .slice qv n.vals.length cv, .slice qi n.kids.length ci]) hs rfl rfl rfl rfl (all1 rfl) (by simp)) rfl ?_; intro _ w hs; rw [splice_all (by rfl)] at hs
        refine zz ?_
        refine MC.retR (vs := [.agg [bool n.leaf, .slice qk n.keys.length ck, .slice qv n.vals.length cv, .slice qi n.kids.length ci].toArray, int 0]) ⟨⟨⟨b6, 0, none⟩, rfl, load_cellA hs rfl⟩, rfl, trivial⟩ ?_
        exact .inl ⟨n, s', hl, hri, ⟨.slice qk n.keys.length ck, .slice qv n.vals.length cv, .slice qi n.kids.length ci, rk, rv⟩, pool, hin, hfew, rfl, hs.pickF 8 [1, 2, 3, 4, 7] rfl rfl⟩
      · rw [if_neg hle] at hl
        rw [decide_eq_true hle]
        refine zz ?_
        refine MC.la true (la_loadV (vs := [bool n.leaf, .slice qk n.keys.length ck, .slice qv n.vals.length cv, .slice qi n.kids.length ci]) hs rfl rfl rfl rfl) rfl ?_
        refine zz ?_
        refine MC.does true (does_store (vs := [bool n.leaf, .slice qk n.keys.length ck, .slice qv n.vals.length cv, .slice qi n.kids.length ci]) hs rfl rfl rfl rfl (all1 rfl) (by simp)) rfl ?_; intro _ w hs; rw [splice_all (by rfl)] at hs
        refine zz ?_
        refine MC.retR (vs := [.agg [bool n.leaf, .slice qk n.keys.length ck, .slice qv n.vals.length cv, .slice qi n.kids.length ci].toArray, int 200]) ⟨⟨⟨b6, 0, none⟩, rfl, load_cellA hs rfl⟩, rfl, trivial⟩ ?_
        exact .inr ⟨200, s', by decide, hl, _, _, _, _, _, _, _, _, _, _, rfl, hs.pickF 8 [7] rfl rfl⟩
  · refine zz ?_
    refine MC.pure (f := true) (po_build (ls := []) (out := [bool false, .slice none 0 0, .slice none 0 0, .slice none 0 0]) rfl rfl trivial rfl) rfl ?_
    refine zz ?_
    refine MC.does true (does_store (vs := [bool false, .slice none 0 0, .slice none 0 0, .slice none 0 0]) hs rfl rfl rfl rfl (all1 rfl) (by simp)) rfl ?_; intro _ w hs; rw [splice_all (by rfl)] at hs
    refine zz ?_
    refine MC.retR (vs := [.agg [bool false, .slice none 0 0, .slice none 0 0, .slice none 0 0].toArray, int e]) ⟨⟨⟨b6, 0, none⟩, rfl, load_cellA hs rfl⟩, rfl, trivial⟩ ?_
    exact .inr ⟨e, s', he, hbad (.inl ⟨e, hm, rfl⟩), _, _, _, _, _, _, _, _, _, _, rfl, hs.pickF 2 [0] rfl rfl⟩
theorem bvalue_spec {vp vc : Value} {b : Bs} (hs : Sat F w) (hc : RdS F 1 vc (b.length + 1) (bytesV (0 :: b))) (hb : b.length ≤ 1000) :
    Ret Tryz.prog 30 [vp, vc] w fun v w' => ∃ vb, v = .tuple #[vb, int 0] ∧ Sat (sl vb 5 1 b.length (bytesV b) :: F) w' := by
  obtain ⟨p, cc, rfl, hcc, _⟩ := hc.shape
  obtain ⟨lb, lo, rfl, hrd⟩ := hc.at_ (by omega)
  refine Ret.enter [(true, vp), (true, .slice (some ⟨lb, lo, none⟩) (b.length + 1) cc)] _ Tryz.func30 rfl Tryz.ntmps30 rfl ?_
  refine zz ?_
  refine MC.la true (la_load1_rd hrd hs (j := Int.toNat 0 * 1) rfl (by rfl)) rfl ?_
  refine zz ?_
  refine MC.does true (does_buildSlice0 hs) rfl ?_; rintro _ w ⟨b1, rfl, hs⟩
  have hs := Sat.sl_mk (xs := []) (spare := []) (n := 0) (c := 0) (size := 1) hs (Nat.le_refl _) rfl rfl
  refine zz ?_
  refine MC.pure (f := true) (po_slice_lo (a := 1) rfl rfl (by omega)) rfl ?_
  have hsub := hc.subLo (a := 1) (by omega)
  rw [Nat.add_sub_cancel] at hsub
  refine MC.does true (does_append hs rfl rfl (RdS.src hsub (bytesV_one _)) (by omega) (by omega)) rfl ?_
  intro vn w hs
  rw [Nat.zero_add, List.nil_append] at hs
  refine zz ?_
  refine MC.ret rfl ?_
  exact ⟨vn, rfl, hs⟩
theorem tell_spec {bp bo bm n c : Nat} {q : Option Addr} {zp vk vc : Value} {key b : Bs} {xs : List Value} (hs : Sat (blk bo [.slice q n c] 38 :: sl (.slice q n c) 48 2 n xs :: blk bp [zp] 23 :: blk bm [int 100] 3 :: F) w)
    (hk : RdS F 1 vk key.length (bytesV key)) (hc : RdS F 1 vc (b.length + 1) (bytesV (0 :: b))) (hkl : key.length ≤ 1000) (hb : b.length ≤ 1000) (hn : n + 1 < 100) :
    Ret Tryz.prog 29 [vk, vc, ptr bp, ptr bo, ptr bm] w fun v w' => ∃ q' c' vk' vv', v = .tuple #[bool true, int 0] ∧
      Sat (blk bo [.slice q' (n + 1) c'] 38 :: sl (.slice q' (n + 1) c') 48 2 (n + 1) (xs ++ [vk', vv']) :: blk bp [zp] 23 :: blk bm [int 100] 3 :: sl vk' 5 1 key.length (bytesV key) :: sl vv' 5 1 b.length (bytesV b) :: F) w' := by
  obtain ⟨qk, ck, rfl, _, _⟩ := hk.shape
  obtain ⟨qc, cc, rfl, _, _⟩ := hc.shape
  refine Ret.enter [(true, .slice qk key.length ck), (true, .slice qc (b.length + 1) cc), (true, ptr bp), (true, ptr bo), (true, ptr bm)] _ Tryz.func29 rfl Tryz.ntmps29 rfl ?_
  refine zz ?_
  refine zc rfl (bvalue_spec (vp := zp) hs hc.up hb) ?_
  rintro _ w ⟨vb, rfl, hs⟩
  obtain ⟨_, qb, cb, rfl, _⟩ := hs.sl_len
  refine zz ?_
  refine MC.draw hs [0, 2, 4, 1, 3, 5, 6, 7, 8] (by rfl) ?_; intro w hs
  refine zd ?_
  refine MC.doesK true (does_buildSlice0 hs) rfl rfl rfl ?_; rintro _ w ⟨b1, rfl, hs⟩; refine zh ?_
  have hs := Sat.sl_mk (xs := []) (spare := []) (n := 0) (c := 0) (size := 1) hs (Nat.le_refl _) rfl rfl
  refine zd ?_
  refine MC.doesK true (does_append hs rfl rfl (RdS.src hk (bytesV_one _)) (by omega) (by omega)) rfl rfl rfl ?_
  intro vk' w hs; refine zh ?_
  rw [Nat.zero_add, List.nil_append] at hs
  obtain ⟨_, qn, cn, rfl, _⟩ := hs.sl_len
  refine zd ?_
  refine MC.pure (f := true) (po_build (ls := [(0, [.slice qn key.length cn]), (1, [.slice qb b.length cb])]) (out := [.slice qn key.length cn, .slice qb b.length cb]) rfl rfl ⟨⟨_, rfl, by simp⟩, ⟨_, rfl, by simp⟩, trivial⟩ rfl) rfl ?_
  refine zd ?_
  refine MC.doesK true (does_buildSlice (vs := [(0, .agg #[.slice qn key.length cn, .slice qb b.length cb])]) (ls := [(0, [.slice qn key.length cn, .slice qb b.length cb])]) (out := [.slice qn key.length cn, .slice qb b.length cb]) hs rfl rfl ⟨⟨_, rfl, by simp [rep]⟩, trivial⟩ rfl rfl) rfl rfl rfl ?_
  rintro _ w ⟨b8, rfl, hs⟩; refine zh ?_
  refine zd ?_
  have hs := Sat.sl_mk (size := 2) (n := 1) (c := 1) (xs := [.slice qn key.length cn, .slice qb b.length cb]) (spare := []) hs (Nat.le_refl _) rfl rfl
  have hs := hs.pickF 7 [4, 0, 1, 2, 3, 5, 6] rfl rfl
  have hr8 := RdS.of_sl hs.tail
  refine MC.doesK true (does_append hs rfl rfl (RdS.src hr8 (fun u hu => by simp only [List.mem_cons, List.not_mem_nil, or_false] at hu; rcases hu with rfl | rfl <;> rfl)) (by omega) (by omega)) rfl rfl rfl ?_
  intro vn w hs; refine zh ?_
  obtain ⟨_, q', c', rfl, _⟩ := hs.sl_len
  refine zd ?_
  refine MC.doesD true (does_store1 hs rfl rfl rfl (by simp)) rfl rfl rfl rfl ?_; intro _ w hs
  refine zz ?_
  refine MC.ret rfl ?_
  refine ⟨q', c', _, _, ?_, hs.pickF 7 [4, 0, 5, 6, 2, 3] rfl rfl⟩
  rw [decide_eq_true (show (((n + 1 : Nat) : Nat) : Int) < 100 by omega)]; rfl
end
theorem u8wd (n d : Nat) : IntKind.u8.wrap (((n : Nat) : Int) / ((d : Nat) : Int)) = (((UInt8.ofNat (n / d)).toNat : Nat) : Int) := by
  have := u8w (n / d)
  rwa [Int.natCast_ediv] at this
section
variable {F : List Assn} {G : List Value → List Assn} {z : Pw} {s : St} {mk : Option (Nat × St)} {w : World} {tp : Nat} {r h c : Value}
theorem tcell_spec {vv : Value} {value : Bs} (hs : Sat (pgr z s mk :: F) w) [hA : At F tp [ptr z.p, r, h, c] 63 G] (hv : RdS F 1 vv value.length (bytesV value)) (hvl : value.length ≤ 1000000) :
    Ret Tryz.prog 20 [ptr tp, vv] w (OutV (cellM z.E value) z s mk F) := by
  have hput := cput_spec hs hv hvl
  obtain ⟨p, cc, rfl, hcc, _⟩ := hv.shape
  refine Ret.enter [(true, ptr tp), (true, .slice p value.length cc)] _ Tryz.func20 rfl Tryz.ntmps20 rfl ?_
  by_cases h15 : value.length ≤ 15
  · refine zz ?_
    refine MC.does true (does_buildL hs rfl rfl rfl (all1 rfl) rfl) rfl ?_; rintro _ w ⟨bt, rfl, hs⟩
    have hs := Sat.sl_mk (xs := [.int .u8 0]) (spare := []) (n := 1) (c := 1) (size := 1) hs (Nat.le_refl _) rfl rfl
    refine zz ?_
    refine MC.does true (does_append hs rfl rfl (RdS.src hv (bytesV_one _)) (by omega) (by omega)) rfl ?_
    intro v w hs
    refine zz ?_
    refine MC.ret rfl ?_
    refine .inl ⟨0 :: value, s, ?_, v, rfl, ?_⟩
    · unfold cellM; rw [if_pos h15]; exact ⟨rfl, rfl⟩
    · rw [Nat.add_comm] at hs
      exact hs
  · refine zz ?_
    refine zc rfl (hput) ?_
    rintro _ w (⟨k, s', hm, rfl, hs⟩ | ⟨e, s', he, hm, rfl, hs⟩)
    · refine zz ?_
      have e2 : IntKind.u8.wrap (((value.length : Nat) : Int) / 256) = _ := u8wd value.length 256
      have e3 : IntKind.u8.wrap (((value.length : Nat) : Int) / 65536) = _ := u8wd value.length 65536
      have e4 : IntKind.u8.wrap (((value.length : Nat) : Int) / 16777216) = _ := u8wd value.length 16777216
      rw [u8w k, u8w2 k, u8w value.length, e2, e3, e4]
      refine MC.does true (does_buildL hs rfl rfl rfl (all1 rfl) rfl) rfl ?_; rintro _ w ⟨bt, rfl, hs⟩
      refine zz ?_
      refine MC.ret rfl ?_
      refine .inl ⟨[1, UInt8.ofNat (k / 256), UInt8.ofNat k, UInt8.ofNat (value.length / 16777216), UInt8.ofNat (value.length / 65536), UInt8.ofNat (value.length / 256), UInt8.ofNat value.length], s', ?_, _, rfl, ?_⟩
      · unfold cellM; rw [if_neg h15]; exact .inr ⟨k, s', hm, rfl, rfl⟩
      · exact Sat.sl_mk (xs := bytesV _) (spare := []) (n := 7) (c := 7) (size := 1) (by rw [List.append_nil]; exact hs) (Nat.le_refl _) rfl rfl
    · refine zz ?_
      have e2 : IntKind.u8.wrap (((value.length : Nat) : Int) / 256) = _ := u8wd value.length 256
      have e3 : IntKind.u8.wrap (((value.length : Nat) : Int) / 65536) = _ := u8wd value.length 65536
      have e4 : IntKind.u8.wrap (((value.length : Nat) : Int) / 16777216) = _ := u8wd value.length 16777216
      rw [u8w value.length, e2, e3, e4]
      refine MC.does true (does_buildL hs rfl rfl rfl (all1 rfl) rfl) rfl ?_; rintro _ w ⟨bt, rfl, hs⟩
      refine zz ?_
      refine MC.ret rfl ?_
      exact .inr ⟨e, s', he, by unfold cellM; rw [if_neg h15]; exact .inl ⟨e, hm, rfl⟩, _, rfl, hs.tail⟩
theorem pgr_few (hs : Sat (pgr z s mk :: F) w) : z.E.frm + s.kinds.length ≤ 100000 := by
  obtain ⟨g, hg, _, _⟩ := pgr_open hs
  exact hg.x.few
theorem take_lt {E : En} {k : Nat} {s' : St} (h : takeM E s (.ok k) s') : k < E.frm + s.kinds.length := by
  unfold takeM at h
  cases hf : s.kinds.findIdx? (· == 0) with
  | none => rw [hf] at h; cases h.1
  | some i =>
    rw [hf] at h
    obtain ⟨h1, _⟩ := h
    cases h1
    obtain ⟨hi, _⟩ := take_first hf
    omega
theorem put_err {E : En} {k : Nat} {b : Bs} {e : Int} {s' : St} (hb : b.length = 256) (h : putM E k b s (.err e) s') : e = 240 ∧ s' = s ∧ s.kind E k ≠ some 1 := by
  unfold putM at h
  by_cases hk : s.kind E k = some 1
  · rw [if_pos hk, if_pos hb] at h; cases h.1
  · rw [if_neg hk] at h
    obtain ⟨h1, h2⟩ := h; cases h1; exact ⟨rfl, h2, hk⟩
theorem put_okk {E : En} {k : Nat} {b : Bs} {u : Unit} {s' : St} (h : putM E k b s (.ok u) s') : s.kind E k = some 1 ∧ s' = ⟨s.kinds, upd s.by_ k b⟩ := by
  unfold putM at h
  split at h
  · next hk =>
    split at h
    · exact ⟨hk, h.2⟩
    · cases h.1
  · cases h.1
def pageI : Option Nat → Int
  | some p => ((p : Nat) : Int)
  | none => -1
def OutP (m : M Nat) (z : Pw) (s : St) (mk : Option (Nat × St)) (F : List Assn) : Value → World → Prop := Out m s
  (fun k s' v w => k ≤ 100000 ∧ v = .tuple #[int ((k : Nat) : Int), int 0] ∧ Sat (pgr z s' mk :: F) w) (fun e s' v w => ∃ k : Int, v = .tuple #[int k, int e] ∧ Sat (pgr z s' mk :: F) w)
theorem tput_spec {y : NdV} {n : Nd} {page : Option Nat} (hs : Sat (pgr z s mk :: F) w) [hA : At F tp [ptr z.p, r, h, c] 63 G] (hr : NdR F y n) (hkd : ∀ k ∈ n.kids, k ≤ 100000) (hp : ∀ p, page = some p → p ≤ 100000) :
    Ret Tryz.prog 21 [ptr tp, int (pageI page), y.val n] w (OutP (putNM z.E page n) z s mk F) := by
  have hr0 := hr
  have hfew := pgr_few hs
  obtain ⟨sk, sv, si, rk, rv⟩ := y
  obtain ⟨hk, hv, hc, ⟨f1, f2, f3⟩, hks, hvs⟩ := hr
  dsimp only [] at hk hv hc f1 f2 f3 hks hvs
  obtain ⟨pk, ck, rfl, hck, _⟩ := hk.shape
  obtain ⟨pv, cv, rfl, hcv, _⟩ := hv.shape
  obtain ⟨pi, ci, rfl, hci, _⟩ := hc.shape
  refine Ret.enter [(true, ptr tp), (true, int (pageI page)), (true, .agg (ndC n pk pv pi ck cv ci).toArray)] _ Tryz.func21 rfl Tryz.ntmps21 rfl ?_
  refine zz ?_
  refine MC.does true (does_box hs rfl rfl) rfl ?_; rintro _ w ⟨b5, rfl, hs⟩
  refine zz ?_
  refine MC.la true (la_loadV (vs := ndC n pk pv pi ck cv ci) hs rfl rfl rfl rfl) rfl ?_
  have hcall := nbytes_spec hs hr0.up hkd
  refine zc rfl (hcall) ?_
  rintro _ w (⟨hri, vb, rfl, hs⟩ | ⟨hri, rfl, hs⟩)
  · have hpl := page_len hri
    rw [← hpl] at hs
    obtain ⟨_, q, cb, rfl, _⟩ := hs.sl_len
    have hs := hs.pickF 3 [2, 0] rfl rfl
    have hnew : ∀ r s', newM z.E n.page page s r s' → (∀ p, page = some p → s.kind z.E p ≠ some 1) → putNM z.E page n s r s' := fun r s' h1 h2 => by
      unfold putNM
      rw [if_neg (fun h => h hri)]
      cases page with
      | none => exact h1
      | some p => dsimp only []; rw [if_neg (h2 p rfl)]; exact h1
    refine zz ?_
    refine MC.cutAtS 1 (σ := Unit) (fun _ => [(0, true, ptr tp), (1, true, int (pageI page)), (8, true, .slice q n.page.length cb)]) (fun _ w => (∀ p, page = some p → s.kind z.E p ≠ some 1) ∧ Sat (pgr z s mk :: sl (.slice q n.page.length cb) 5 1 n.page.length (bytesV n.page) :: F) w) rfl ?_ ?_
    rotate_left
    · cases page with
      | none =>
        dsimp only [pageI]
        refine zz ?_
        exact MC.meetS () zi ⟨fun p h => (by cases h), hs⟩
      | some p =>
        have hp := hp p rfl
        dsimp only [pageI]
        refine zz ?_
        have hput := pput_spec (k := p) hs (RdS.of_sl hs.tail) hp
        refine zc rfl (hput) ?_
        rintro _ w (⟨_, s', hm, rfl, hs⟩ | ⟨e, s', he, hm, rfl, hs⟩)
        · obtain ⟨hk1, rfl⟩ := put_okk hm
          refine zz ?_
          refine MC.ret rfl ?_
          refine .inl ⟨p, _, ?_, hp, rfl, hs.pickF 2 [0] rfl rfl⟩
          unfold putNM
          rw [if_neg (fun h => h hri)]
          dsimp only []
          rw [if_pos hk1]
          exact ⟨rfl, rfl⟩
        · obtain ⟨rfl, e2, hk1⟩ := put_err hpl hm
          rw [e2] at hs
          refine zz ?_
          exact MC.meetS () zi ⟨fun p' h => (by cases h; exact hk1), hs⟩
    · rintro _ w ⟨hk1, hs⟩
      dsimp only [List.drop]
      refine zz ?_
      have htk := take_spec hs
      refine zc rfl (htk) ?_
      rintro _ w (⟨k, s1, hm, rfl, hs⟩ | ⟨e, s', he, hm, rfl, hs⟩)
      · have hkl := take_lt hm
        refine zz ?_
        refine MC.cutAtS 1 (σ := St) (fun _ => [(0, true, ptr tp), (8, true, .slice q n.page.length cb), (11, true, int ((k : Nat) : Int))]) (fun s2 w => (match page with
          | some p => dropM z.E p
          | none => M.pure ()) s1 (.ok ()) s2 ∧ Sat (pgr z s2 mk :: sl (.slice q n.page.length cb) 5 1 n.page.length (bytesV n.page) :: F) w) rfl ?_ ?_
        rotate_left
        · cases page with
          | none =>
            dsimp only [pageI]
            refine zz ?_
            exact MC.meetS s1 zi ⟨⟨rfl, rfl⟩, hs⟩
          | some p =>
            have hp := hp p rfl
            dsimp only [pageI]
            refine zz ?_
            have hdr := drop_spec (k := p) hs hp
            refine zc rfl (hdr) ?_
            rintro _ w (⟨_, s2, hm2, rfl, hs⟩ | ⟨e, s', he, hm2, rfl, hs⟩)
            · refine zz ?_
              exact MC.meetS s2 zi ⟨hm2, hs⟩
            · refine zz ?_
              refine MC.ret rfl ?_
              exact .inr ⟨e, s', he, hnew _ _ (.inr ⟨k, s1, hm, .inl ⟨e, hm2, rfl⟩⟩) hk1, 0, rfl, hs.pickF 2 [0] rfl rfl⟩
        · rintro s2 w ⟨hm2, hs⟩
          dsimp only [List.drop]
          refine zz ?_
          have hput := pput_spec (k := k) hs (RdS.of_sl hs.tail) (by omega)
          refine zc rfl (hput) ?_
          rintro _ w (⟨_, s3, hm3, rfl, hs⟩ | ⟨e, s3, he, hm3, rfl, hs⟩)
          · refine zz ?_
            refine MC.ret rfl ?_
            exact .inl ⟨k, s3, hnew _ _ (.inr ⟨k, s1, hm, .inr ⟨(), s2, hm2, .inr ⟨(), s3, hm3, rfl, rfl⟩⟩⟩) hk1, by omega, rfl, hs.pickF 2 [0] rfl rfl⟩
          · refine zz ?_
            refine MC.ret rfl ?_
            exact .inr ⟨e, s3, he, hnew _ _ (.inr ⟨k, s1, hm, .inr ⟨(), s2, hm2, .inl ⟨e, hm3, rfl⟩⟩⟩) hk1, _, rfl, hs.pickF 2 [0] rfl rfl⟩
      · refine zz ?_
        refine MC.ret rfl ?_
        exact .inr ⟨e, s', he, hnew _ _ (.inl ⟨e, hm, rfl⟩) hk1, 0, rfl, hs.pickF 2 [0] rfl rfl⟩
  · refine zz ?_
    refine MC.ret rfl ?_
    refine .inr ⟨200, s, by decide, ?_, 0, rfl, hs.tail⟩
    unfold putNM
    rw [if_pos hri]
    exact ⟨rfl, rfl⟩
end
end Go.Proofs.YtkccjgllanpebaaGreatDoor
