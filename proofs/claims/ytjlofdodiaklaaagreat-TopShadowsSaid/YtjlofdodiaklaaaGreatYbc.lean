/-
  Trees: insert
-/
import Derived.Test.YtjlofdodiaklaaaGreatYbb
set_option maxHeartbeats 1000000
set_option linter.unusedVariables false
set_option linter.unusedSimpArgs false
namespace Go.Proofs.YtjlofdodiaklaaaGreat
open Go Go.Sl Go.Tr
attribute [local irreducible] LooksAt

section
variable {mk : Option (Nat × St)} {z : Pw} {tp : Nat} {r h c : Value}
def OutI (m : M (Md × Bool)) (z : Pw) (s : St) (mk : Option (Nat × St)) (F : List Assn) : Value → World → Prop := Out m s
  (fun x s' v w => MdOk x.1 ∧ ∃ vk, v = .tuple #[.agg (mdC ((x.1.page : Nat) : Int) (pageI x.1.other) vk ((x.1.size : Nat) : Int)).toArray, bool x.2, int 0] ∧ Sat (sl vk 5 1 x.1.key.length (bytesV x.1.key) :: pgr z s' mk :: F) w)
  (fun e s' v w => ∃ a b q n c d t, v = .tuple #[.agg (mdC a b (.slice q n c) d).toArray, bool t, int e] ∧ Sat (pgr z s' mk :: F) w)
theorem levelM_spec {F : List Assn} {G : List Value → List Assn} {s : St} {w : World} {page hh : Nat} (hs : Sat (pgr z s mk :: F) w) [hA : At F tp [ptr z.p, r, h, c] 89 G] (hp : page ≤ 100000) :
    Ret Tryz.prog 67 [ptr tp, int ((page : Nat) : Int), int ((hh : Nat) + 1 : Int)] w (OutN (levelM z.E page (hh == 0)) z s mk F) := by
  have h1 := tlevel_spec (tp := tp) (hh := hh + 1) hs hp
  have h2 : (hh + 1 == 1) = (hh == 0) := by cases hh <;> rfl
  rw [h2] at h1
  exact h1
theorem find_le {n : Nd} {key : Bs} : (n.find key).1 ≤ n.keys.length ∧ ((n.find key).2 = true → n.leaf = true ∧ (n.find key).1 < n.keys.length) := by
  have h1 : below n.keys key ≤ n.keys.length := (List.takeWhile_sublist _).length_le
  have h2 : ((n.keys.drop (below n.keys key)).takeWhile fun k => decide (k = key)).length ≤ n.keys.length - below n.keys key := by
    have := (List.takeWhile_sublist (fun k => decide (k = key)) (l := n.keys.drop (below n.keys key))).length_le
    rw [List.length_drop] at this; exact this
  unfold Nd.find
  by_cases hl : n.leaf = true
  · rw [if_pos hl]
    refine ⟨h1, fun h => ⟨hl, ?_⟩⟩
    have := of_decide_eq_true h
    exact (List.getElem?_eq_some_iff.1 this).1
  · rw [if_neg hl]
    exact ⟨Nat.le_trans (Nat.add_le_add_left h2 _) (by omega), fun h => by cases h⟩
theorem level_same {E : En} {page : Nat} {low : Bool} {s s' : St} {n : Nd} (h : levelM E page low s (.ok n) s') : s' = s ∧ n.leaf = low := by
  rcases h with ⟨e, _, h⟩ | ⟨b, s1, h1, h2⟩
  · cases h
  · obtain ⟨rfl, _⟩ := h1
    cases hn : readN b with
    | none => rw [hn] at h2; cases h2.1
    | some m =>
      rw [hn] at h2
      dsimp only [] at h2
      split at h2
      · obtain ⟨h3, h4⟩ := h2; cases h3; exact ⟨h4, by assumption⟩
      · cases h2.1
theorem row_open {l : List Assn} {v : Value} {e : TypeId} {n : Nat} {xs : List Value} {w : World} (hs : Sat (sl v e 1 n xs :: l) w) (h0 : 0 < n) : ∃ b c sp, v = .slice (some ⟨b, 0, none⟩) n c ∧ n ≤ c ∧ xs.length = n ∧ xs.length + sp.length = c ∧ Sat (blk b (xs ++ sp) e :: l) w := by
  rcases hs.sl_cases with ⟨_, h, _⟩ | ⟨b, c, sp, rfl, h1, h2, h3, hs⟩
  · omega
  · exact ⟨b, c, sp, rfl, h1, by omega, by omega, hs⟩
theorem inp_set {pool : List (Value × Bs)} {rs : List Value} {ks : List Bs} {i : Nat} {u : Value} {k : Bs} (h : Inp pool rs ks) : Inp (pool ++ [(u, k)]) (rs.set i u) (ks.set i k) := by
  obtain ⟨h1, h2⟩ := h
  refine ⟨by rw [List.length_set, List.length_set, h1], fun j k' hk => ?_⟩
  rw [List.getElem?_set] at hk ⊢
  by_cases hij : i = j
  · rw [if_pos hij] at hk ⊢
    split at hk
    · cases hk
      exact ⟨u, by rw [if_pos (by omega)], List.mem_append_right _ (List.mem_singleton.2 rfl)⟩
    · cases hk
  · rw [if_neg hij] at hk ⊢
    obtain ⟨u', g1, g2⟩ := h2 j k' hk
    exact ⟨u', g1, List.mem_append_left _ g2⟩
theorem tinsert_spec : ∀ (hh : Nat) {F : List Assn} {G : List Value → List Assn} {s : St} {w : World} {page : Nat} {vk vc : Value} {key cell : Bs} (hs : Sat (pgr z s mk :: sl vc 5 1 cell.length (bytesV cell) :: F) w) (hA : At F tp [ptr z.p, r, h, c] 89 G)
    (hkey : RdS F 1 vk key.length (bytesV key)) (hkl : key.length ≤ 255) (hcl : cell.length ≤ 255) (hp : page ≤ 100000) (hhh : hh ≤ 100000),
    Ret Tryz.prog 34 [ptr tp, int ((page : Nat) : Int), int ((hh : Nat) + 1 : Int), vk, vc] w (OutI (insertM z.E (hh + 1) page key cell) z s mk F) := by
  intro hh
  induction hh with
  | zero =>
    intro F G s w page vk vc key cell hs hA hkey hkl hcl hp hhh
    obtain ⟨qk, qc, rfl, _, _⟩ := hkey.shape
    obtain ⟨_, qx, qxc, rfl, _⟩ := hs.tail.sl_len
    refine Ret.enter [(true, ptr tp), (true, int ((page : Nat) : Int)), (true, int (((0 : Nat) : Int) + 1)), (true, .slice qk key.length qc), (true, .slice qx cell.length qxc)] _ Tryz.func34 rfl Tryz.ntmps34 rfl ?_
    refine zz ?_
    refine MC.does true (does_alloc hs) rfl ?_; rintro _ w ⟨b10, rfl, hs⟩
    refine zz ?_
    have hlv := levelM_spec (tp := tp) (hh := 0) hs.swap hp
    refine MC.does true (does_call rfl (hlv)) rfl ?_
    rintro _ w (⟨n, s', hm, hri, ⟨sk, sv, si, rk, rv⟩, pool, hin, hfew, rfl, hs⟩ | ⟨e, s', he, hm, lf, q1, n1, c1, q2, n2, c2, q3, n3, c3, rfl, hs⟩)
    · obtain ⟨e1, hlf⟩ := level_same hm
      obtain ⟨_, qk1, ck1, rfl, _⟩ := hs.tail.sl_len
      obtain ⟨_, qv1, cv1, rfl, _⟩ := hs.tail.tail.sl_len
      obtain ⟨_, qi1, ci1, rfl, _⟩ := hs.tail.tail.tail.sl_len
      have hlf : n.leaf = true := hlf
      have h3 := hri.1.2.2
      rw [if_pos hlf] at h3
      obtain ⟨hvl, hk0, hv16⟩ := h3
      have hs := hs.pickF 7 [4, 0, 1, 2, 3, 5, 6] rfl rfl
      refine zz ?_
      refine MC.does true (does_alloc hs) rfl ?_; rintro _ w ⟨b13, rfl, hs⟩
      refine zz ?_
      refine MC.does true (does_store (vs := [bool n.leaf, .slice qk1 n.keys.length ck1, .slice qv1 n.vals.length cv1, .slice qi1 n.kids.length ci1]) hs rfl rfl rfl rfl (all1 rfl) (by simp)) rfl ?_; intro _ w hs; rw [splice_all (by rfl)] at hs
      refine zz ?_
      refine MC.la true (la_loadV (vs := [bool n.leaf, .slice qk1 n.keys.length ck1, .slice qv1 n.vals.length cv1, .slice qi1 n.kids.length ci1]) hs rfl rfl rfl rfl) rfl ?_
      refine zz ?_
      have hrd := hin.read (F := _) hfew hs.tail.tail
      have hfd := nfind_spec hs hrd.up (hkey.up)
      refine MC.does true (does_call rfl (hfd)) rfl ?_
      rintro _ w ⟨rfl, hs⟩
      have hone := hrd.keys.one
      have hone2 := hrd.vals.one
      obtain ⟨hfle, hfis⟩ := find_le (n := n) (key := key)
      have hmod : ∀ (r : Res (Md × Bool)) (s2 : St), ((if (n.find key).2 = true then loseM z.E (n.vals.getD (n.find key).1 []) else M.pure ()).bind fun _ => (saveM z.E page (if (n.find key).2 = true then { n with vals := n.vals.set (n.find key).1 cell } else { n with keys := n.keys.insertIdx (n.find key).1 key, vals := n.vals.insertIdx (n.find key).1 cell })).bind fun m => M.pure (m, !(n.find key).2)) s' r s2 → insertM z.E (0 + 1) page key cell s r s2 := fun r s2 hr => by
        unfold insertM
        refine .inr ⟨n, s', hm, ?_⟩
        dsimp only []
        rw [if_pos rfl]
        exact hr
      generalize (n.find key).1 = i at *
      cases hbis : (n.find key).2 with
      | true =>
        rw [hbis] at hfis hmod
        simp only [if_true, Bool.not_true] at hmod
        have hiv : i < n.vals.length := by rw [hvl]; exact (hfis rfl).2
        obtain ⟨vb, vo, vcc, q2, c3, hv1, hvg, hvr, hv2⟩ := hrd.vals.get hiv
        have hvg' : rv[((i : Nat) : Int).toNat * 1]? = some (.slice q2 n.vals[i].length c3) := by rw [Int.toNat_natCast, Nat.mul_one]; exact hvg
        have hv1' : qv1 = some ⟨vb, vo, none⟩ ∧ cv1 = vcc := by injection hv1 with h1 h2 h3; exact ⟨h1, h3⟩
        obtain ⟨rfl, rfl⟩ := hv1'
        have hvi16 := hv16 _ (List.getElem_mem hiv)
        have hgd : n.vals.getD i [] = n.vals[i] := getD_at hiv
        rw [hgd] at hmod
        refine zz ?_
        refine MC.la true (la_load1_rd hvr hs (j := ((i : Nat) : Int).toNat * 1) rfl hvg') rfl ?_
        refine zz ?_
        have hls := tlose_spec (tp := tp) (cell := n.vals[i]) hs.swap hv2.up (by omega)
        refine MC.does true (does_call rfl (hls)) rfl ?_
        rintro _ w (⟨_, s2, hm2, rfl, hs⟩ | ⟨e, s2, he, hm2, rfl, hs⟩)
        · refine zz ?_
          have hs := hs.pickF 6 [4, 0, 1, 2, 3, 5] rfl rfl
          obtain ⟨bv, cv, spv, hve, hcv, hrvl, hspl, hs⟩ := row_open hs (by omega)
          injection hve with h1 h2 h3
          injection h1 with h1
          injection h1 with h4 h5
          subst h4; subst h5; subst h3
          have hrvl : rv.length = n.vals.length := hrvl
          have hspl : rv.length + spv.length = cv1 := hspl
          refine zz ?_
          refine MC.does true (does_store1 hs rfl rfl rfl (by rw [List.length_append]; omega)) rfl ?_; intro _ w hs
          have eset : (rv ++ spv).set (0 + ((i : Nat) : Int).toNat * 1) (.slice qx cell.length qxc) = rv.set i (.slice qx cell.length qxc) ++ spv := by
            rw [show 0 + ((i : Nat) : Int).toNat * 1 = i by rw [Int.toNat_natCast]; omega, List.set_append_left _ _ (by omega)]
          rw [eset] at hs
          have hs := Sat.sl_mk (n := n.vals.length) (c := cv1) (size := 1) hs hcv (by rw [List.length_set]; omega) (by rw [List.length_set]; omega)
          have hs := hs.pickF 8 [7, 3, 0, 1, 2, 4, 5, 6] rfl rfl
          have hs := bods_add rfl hs
          have hs := hs.pickF 7 [2, 0, 4, 1, 5, 3, 6] rfl rfl
          refine zz ?_
          have hin2 : NdIn (pool ++ [(.slice qx cell.length qxc, cell)]) (⟨.slice qk1 n.keys.length ck1, .slice (some ⟨vb, 0, none⟩) n.vals.length cv1, .slice qi1 n.kids.length ci1, rk, rv.set i (.slice qx cell.length qxc)⟩ : NdV) ({ n with vals := n.vals.set i cell } : Nd) := ⟨hin.kl, pool_up (fun x hx => List.mem_append_left _ hx) hin.key, (inp_set (i := i) (u := .slice qx cell.length qxc) (k := cell) ⟨hin.vl, hin.val⟩).1, (inp_set (i := i) (u := .slice qx cell.length qxc) (k := cell) ⟨hin.vl, hin.val⟩).2⟩
          have hd := hs.tail
          have hrd2 := hin2.read2 hd (RdS.of_sl hd.tail) (by show RdS _ 1 (.slice (some ⟨vb, 0, none⟩) n.vals.length cv1) (n.vals.set i cell).length _; rw [List.length_set]; exact (RdS.of_sl hd.tail.tail).up) (RdS.of_sl hd.tail.tail.tail).up ⟨by show n.keys.length ≤ 1000; have := hfew.keys; omega, by show (n.vals.set i cell).length ≤ 1000; rw [List.length_set]; have := hfew.vals; omega, by show n.kids.length ≤ 1000; have := hfew.kids; omega⟩ (fun k h => by have := hfew.k k h; omega) (fun k h => by
                      rcases List.mem_or_eq_of_mem_set h with h | h
                      · have := hfew.v k h; omega
                      · rw [h]; omega)
          refine MC.la true (la_loadV (vs := [bool n.leaf, (⟨.slice qk1 n.keys.length ck1, .slice (some ⟨vb, 0, none⟩) n.vals.length cv1, .slice qi1 n.kids.length ci1, rk, rv.set i (.slice qx cell.length qxc)⟩ : NdV).sk, (⟨.slice qk1 n.keys.length ck1, .slice (some ⟨vb, 0, none⟩) n.vals.length cv1, .slice qi1 n.kids.length ci1, rk, rv.set i (.slice qx cell.length qxc)⟩ : NdV).sv, (⟨.slice qk1 n.keys.length ck1, .slice (some ⟨vb, 0, none⟩) n.vals.length cv1, .slice qi1 n.kids.length ci1, rk, rv.set i (.slice qx cell.length qxc)⟩ : NdV).si]) hs rfl rfl rfl rfl) rfl ?_
          have hsv := tsave_spec (tp := tp) (page := page) hs hrd2.up (fun k h => by have := hfew.c k h; omega) hp
          refine MC.does true (does_call rfl (hsv)) rfl ?_
          rintro _ w (⟨md2, s3, hm3, hmd2, vk2, rfl, hs⟩ | ⟨e, s3, he, hm3, a2, c2, q2, n2, cc2, d2, rfl, hs⟩)
          · obtain ⟨_, qm2, cm2, rfl, _⟩ := hs.sl_len
            refine zz ?_
            refine MC.does true (does_alloc hs) rfl ?_; rintro _ w ⟨b18, rfl, hs⟩
            refine zz ?_
            refine MC.does true (does_store (vs := mdC ((md2.page : Nat) : Int) (pageI md2.other) (.slice qm2 md2.key.length cm2) ((md2.size : Nat) : Int)) hs rfl rfl rfl rfl (all1 rfl) (by simp)) rfl ?_; intro _ w hs; rw [splice_all (by rfl)] at hs
            refine zz ?_
            refine MC.la true (la_loadV (vs := mdC ((md2.page : Nat) : Int) (pageI md2.other) (.slice qm2 md2.key.length cm2) ((md2.size : Nat) : Int)) hs rfl rfl rfl rfl) rfl ?_
            refine zz ?_
            refine MC.does true (does_store (vs := mdC ((md2.page : Nat) : Int) (pageI md2.other) (.slice qm2 md2.key.length cm2) ((md2.size : Nat) : Int)) hs rfl rfl rfl rfl (all1 rfl) (by simp)) rfl ?_; intro _ w hs; rw [splice_all (by rfl)] at hs
            refine zz ?_
            refine MC.retR (vs := [.agg (mdC ((md2.page : Nat) : Int) (pageI md2.other) (.slice qm2 md2.key.length cm2) ((md2.size : Nat) : Int)).toArray, bool false, int 0]) ⟨⟨⟨b10, 0, none⟩, rfl, load_cellA hs rfl⟩, rfl, rfl, trivial⟩ ?_
            exact .inl ⟨(md2, false), s3, hmod _ _ (.inr ⟨(), s2, hm2, .inr ⟨md2, s3, hm3, rfl, rfl⟩⟩), hmd2, .slice qm2 md2.key.length cm2, rfl, hs.pickF 9 [1, 2] rfl rfl⟩
          · refine zz ?_
            refine MC.does true (does_alloc hs) rfl ?_; rintro _ w ⟨b18, rfl, hs⟩
            refine zz ?_
            refine MC.does true (does_store (vs := mdC a2 c2 (.slice q2 n2 cc2) d2) hs rfl rfl rfl rfl (all1 rfl) (by simp)) rfl ?_; intro _ w hs; rw [splice_all (by rfl)] at hs
            refine zz ?_
            refine MC.la true (la_loadV (vs := mdC a2 c2 (.slice q2 n2 cc2) d2) hs rfl rfl rfl rfl) rfl ?_
            refine zz ?_
            refine MC.does true (does_store (vs := mdC a2 c2 (.slice q2 n2 cc2) d2) hs rfl rfl rfl rfl (all1 rfl) (by simp)) rfl ?_; intro _ w hs; rw [splice_all (by rfl)] at hs
            refine zz ?_
            refine MC.retR (vs := [.agg (mdC a2 c2 (.slice q2 n2 cc2) d2).toArray, bool false, int e]) ⟨⟨⟨b10, 0, none⟩, rfl, load_cellA hs rfl⟩, rfl, rfl, trivial⟩ ?_
            exact .inr ⟨e, s3, he, hmod _ _ (.inr ⟨(), s2, hm2, .inl ⟨e, hm3, rfl⟩⟩), _, _, _, _, _, _, _, rfl, hs.pickF 8 [1] rfl rfl⟩
        · refine zz ?_
          refine MC.pure (f := true) (po_build (ls := []) (out := mdC 0 0 (.slice none 0 0) 0) rfl rfl trivial rfl) rfl ?_
          refine zz ?_
          refine MC.does true (does_store (vs := mdC 0 0 (.slice none 0 0) 0) hs rfl rfl rfl rfl (all1 rfl) (by simp)) rfl ?_; intro _ w hs; rw [splice_all (by rfl)] at hs
          refine zz ?_
          refine MC.retR (vs := [.agg (mdC 0 0 (.slice none 0 0) 0).toArray, bool false, int e]) ⟨⟨⟨b10, 0, none⟩, rfl, load_cellA hs rfl⟩, rfl, rfl, trivial⟩ ?_
          exact .inr ⟨e, s2, he, hmod _ _ (.inl ⟨e, hm2, rfl⟩), _, _, _, _, _, _, _, rfl, hs.pickF 8 [0] rfl rfl⟩
      | false =>
        rw [hbis] at hmod
        simp only [Bool.false_eq_true, if_false, Bool.not_false] at hmod
        refine zz ?_
        refine MC.cutAtS 1 (σ := Value × Value × Value) (fun x => [(0, true, ptr tp), (1, true, int ((page : Nat) : Int)), (10, true, ptr b10), (13, true, ptr b13), (16, true, bool false)]) (fun x w => Sat (pgr z s' mk :: sl x.2.2 5 1 key.length (bytesV key) :: sl (.slice qx cell.length qxc) 5 1 cell.length (bytesV cell) :: bods 5 pool :: sl x.1 44 1 (n.keys.length + 1) (rk.insertIdx i x.2.2) :: sl x.2.1 44 1 (n.vals.length + 1) (rv.insertIdx i (.slice qx cell.length qxc)) :: sl (.slice qi1 n.kids.length ci1) 3 1 n.kids.length (bufV n.kids) :: blk b13 [bool n.leaf, x.1, x.2.1, .slice qi1 n.kids.length ci1] 97 :: blk b10 (mdC 0 0 (.slice none 0 0) 0) 99 :: F) w) rfl ?_ ?_
        rotate_left
        · refine MC.draw hs [0, 1, 2, 3, 7, 8, 9, 10, 4, 5, 6, 13, 11, 12, 14, 15, 16] (by rfl) ?_; intro w hs
          refine zd ?_
          have hc4 := bclone_spec hs hkey.up (by omega)
          refine MC.fork 11 [4, 5, 6, 13, 12, 14, 15, 16] rfl rfl (does_call rfl hc4) (does_buildObj hs rfl rfl rfl (all1 rfl) rfl) ?_ ?_
          · skip
            intro vy w hs
            refine zh ?_
            obtain ⟨_, qy, cy, rfl, _⟩ := hs.sl_len
            refine zd ?_
            refine MC.fork 11 [5, 6, 13, 12, 14, 15, 16] rfl rfl (does_buildObj hs rfl rfl rfl (all1 rfl) rfl) (does_buildObj hs rfl rfl rfl (all1 rfl) rfl) ?_ ?_
            · skip
              rintro _ w ⟨bK, rfl, hs⟩
              refine zh ?_
              refine zd ?_
              have hs := hs.pickF 10 [5, 0, 1, 2, 3, 4, 6, 7, 8, 9] rfl rfl
              have hB := insB_spec (i := i) hs hfle (by have := hfew.keys; omega) hone rfl
              refine MC.fork 11 [6, 13, 12, 14, 15, 16] rfl rfl (does_call rfl hB) (does_buildObj hs rfl rfl rfl (all1 rfl) rfl) ?_ ?_
              · skip
                intro vB w hs
                refine zh ?_
                refine zd ?_
                refine MC.doesK true (does_buildObj hs rfl rfl rfl (all1 rfl) rfl) rfl rfl rfl ?_
                rintro _ w ⟨bC, rfl, hs⟩
                refine zh ?_
                refine zd ?_
                have hs := hs.pickF 10 [6, 0, 1, 2, 3, 4, 5, 7, 8, 9] rfl rfl
                have hV := insB_spec (i := i) hs (by rw [hvl]; exact hfle) (by have := hfew.vals; omega) hone2 rfl
                refine MC.doesK true (does_call rfl (hV)) rfl rfl rfl ?_
                intro vV w hs
                refine zh ?_
                have hs := hs.pickF 9 [1, 0, 2, 3, 4, 5, 6, 7, 8] rfl rfl
                obtain ⟨_, qk2, ck2, rfl, _⟩ := hs.sl_len
                obtain ⟨_, qv2, cv2, rfl, _⟩ := hs.tail.sl_len
                refine zd ?_
                refine MC.doesL true (does_store1 hs rfl rfl rfl (by simp)) rfl rfl rfl rfl ?_; intro _ w hs; refine zh ?_
                refine zd ?_
                refine MC.doesL true (does_store1 hs rfl rfl rfl (by simp)) rfl rfl rfl rfl ?_; intro _ w hs; refine zh ?_
                refine zd ?_
                have hs := hs.pickF 9 [4, 2, 8, 5, 0, 1, 6, 3, 7] rfl rfl
                exact MC.meetS (.slice qk2 (n.keys.length + 1) ck2, .slice qv2 (n.vals.length + 1) cv2, .slice qy key.length cy) (by repeat (first | exact trivial | refine ⟨rfl, ?_⟩)) hs
              · skip
                rintro _ w ⟨bC, rfl, hs⟩
                refine zh ?_
                refine zd ?_
                have hs := hs.pickF 11 [1, 2, 0, 3, 4, 5, 6, 7, 8, 9, 10] rfl rfl
                have hB := insB_spec (i := i) hs hfle (by have := hfew.keys; omega) hone rfl
                refine MC.doesK true (does_call rfl (hB)) rfl rfl rfl ?_
                intro vB w hs
                refine zh ?_
                refine zd ?_
                have hs := hs.pickF 10 [6, 1, 0, 2, 3, 4, 5, 7, 8, 9] rfl rfl
                have hV := insB_spec (i := i) hs (by rw [hvl]; exact hfle) (by have := hfew.vals; omega) hone2 rfl
                refine MC.doesK true (does_call rfl (hV)) rfl rfl rfl ?_
                intro vV w hs
                refine zh ?_
                have hs := hs.pickF 9 [1, 0, 2, 3, 4, 5, 6, 7, 8] rfl rfl
                obtain ⟨_, qk2, ck2, rfl, _⟩ := hs.sl_len
                obtain ⟨_, qv2, cv2, rfl, _⟩ := hs.tail.sl_len
                refine zd ?_
                refine MC.doesL true (does_store1 hs rfl rfl rfl (by simp)) rfl rfl rfl rfl ?_; intro _ w hs; refine zh ?_
                refine zd ?_
                refine MC.doesL true (does_store1 hs rfl rfl rfl (by simp)) rfl rfl rfl rfl ?_; intro _ w hs; refine zh ?_
                refine zd ?_
                have hs := hs.pickF 9 [4, 2, 8, 5, 0, 1, 6, 3, 7] rfl rfl
                exact MC.meetS (.slice qk2 (n.keys.length + 1) ck2, .slice qv2 (n.vals.length + 1) cv2, .slice qy key.length cy) (by repeat (first | exact trivial | refine ⟨rfl, ?_⟩)) hs
            · skip
              rintro _ w ⟨bC, rfl, hs⟩
              refine zh ?_
              refine zd ?_
              refine MC.doesK true (does_buildObj hs rfl rfl rfl (all1 rfl) rfl) rfl rfl rfl ?_
              rintro _ w ⟨bK, rfl, hs⟩
              refine zh ?_
              refine zd ?_
              have hs := hs.pickF 11 [6, 0, 1, 2, 3, 4, 5, 7, 8, 9, 10] rfl rfl
              have hB := insB_spec (i := i) hs hfle (by have := hfew.keys; omega) hone rfl
              refine MC.doesK true (does_call rfl (hB)) rfl rfl rfl ?_
              intro vB w hs
              refine zh ?_
              refine zd ?_
              have hs := hs.pickF 10 [6, 1, 0, 2, 3, 4, 5, 7, 8, 9] rfl rfl
              have hV := insB_spec (i := i) hs (by rw [hvl]; exact hfle) (by have := hfew.vals; omega) hone2 rfl
              refine MC.doesK true (does_call rfl (hV)) rfl rfl rfl ?_
              intro vV w hs
              refine zh ?_
              have hs := hs.pickF 9 [1, 0, 2, 3, 4, 5, 6, 7, 8] rfl rfl
              obtain ⟨_, qk2, ck2, rfl, _⟩ := hs.sl_len
              obtain ⟨_, qv2, cv2, rfl, _⟩ := hs.tail.sl_len
              refine zd ?_
              refine MC.doesL true (does_store1 hs rfl rfl rfl (by simp)) rfl rfl rfl rfl ?_; intro _ w hs; refine zh ?_
              refine zd ?_
              refine MC.doesL true (does_store1 hs rfl rfl rfl (by simp)) rfl rfl rfl rfl ?_; intro _ w hs; refine zh ?_
              refine zd ?_
              have hs := hs.pickF 9 [4, 2, 8, 5, 0, 1, 6, 3, 7] rfl rfl
              exact MC.meetS (.slice qk2 (n.keys.length + 1) ck2, .slice qv2 (n.vals.length + 1) cv2, .slice qy key.length cy) (by repeat (first | exact trivial | refine ⟨rfl, ?_⟩)) hs
          · skip
            rintro _ w ⟨bC, rfl, hs⟩
            refine zh ?_
            refine zd ?_
            have hc4 := bclone_spec hs hkey.up (by omega)
            refine MC.doesK true (does_call rfl (hc4)) rfl rfl rfl ?_
            intro vy w hs
            refine zh ?_
            obtain ⟨_, qy, cy, rfl, _⟩ := hs.sl_len
            refine zd ?_
            refine MC.doesK true (does_buildObj hs rfl rfl rfl (all1 rfl) rfl) rfl rfl rfl ?_
            rintro _ w ⟨bK, rfl, hs⟩
            refine zh ?_
            refine zd ?_
            have hs := hs.pickF 11 [6, 0, 1, 2, 3, 4, 5, 7, 8, 9, 10] rfl rfl
            have hB := insB_spec (i := i) hs hfle (by have := hfew.keys; omega) hone rfl
            refine MC.doesK true (does_call rfl (hB)) rfl rfl rfl ?_
            intro vB w hs
            refine zh ?_
            refine zd ?_
            have hs := hs.pickF 10 [6, 2, 0, 1, 3, 4, 5, 7, 8, 9] rfl rfl
            have hV := insB_spec (i := i) hs (by rw [hvl]; exact hfle) (by have := hfew.vals; omega) hone2 rfl
            refine MC.doesK true (does_call rfl (hV)) rfl rfl rfl ?_
            intro vV w hs
            refine zh ?_
            have hs := hs.pickF 9 [1, 0, 2, 3, 4, 5, 6, 7, 8] rfl rfl
            obtain ⟨_, qk2, ck2, rfl, _⟩ := hs.sl_len
            obtain ⟨_, qv2, cv2, rfl, _⟩ := hs.tail.sl_len
            refine zd ?_
            refine MC.doesL true (does_store1 hs rfl rfl rfl (by simp)) rfl rfl rfl rfl ?_; intro _ w hs; refine zh ?_
            refine zd ?_
            refine MC.doesL true (does_store1 hs rfl rfl rfl (by simp)) rfl rfl rfl rfl ?_; intro _ w hs; refine zh ?_
            refine zd ?_
            have hs := hs.pickF 9 [4, 2, 8, 5, 0, 1, 6, 3, 7] rfl rfl
            exact MC.meetS (.slice qk2 (n.keys.length + 1) ck2, .slice qv2 (n.vals.length + 1) cv2, .slice qy key.length cy) (by repeat (first | exact trivial | refine ⟨rfl, ?_⟩)) hs
        · rintro ⟨vB, vV, vy⟩ w hs
          dsimp only [List.drop] at hs ⊢
          obtain ⟨_, qy, cy, rfl, _⟩ := hs.tail.sl_len
          obtain ⟨_, qB, cB, rfl, _⟩ := hs.tail.tail.tail.tail.sl_len
          obtain ⟨_, qV, cV, rfl, _⟩ := hs.tail.tail.tail.tail.tail.sl_len
          have hs := bods_add rfl (hs.pickF 4 [2, 3, 0, 1] rfl rfl)
          have hs := bods_add rfl (hs.pickF 3 [2, 0, 1] rfl rfl)
          have hki := inp_ins (u := .slice qy key.length cy) (k := key) (pool := pool ++ [(.slice qx cell.length qxc, cell)]) ⟨hin.kl, pool_up (fun x hx => List.mem_append_left _ hx) hin.key⟩ hfle
          have hvi := inp_ins (u := .slice qx cell.length qxc) (k := cell) ⟨hin.vl, hin.val⟩ (show i ≤ n.vals.length by rw [hvl]; exact hfle)
          have hkl2 : (n.keys.insertIdx i key).length = n.keys.length + 1 := by rw [List.length_insertIdx_of_le_length hfle]
          have hvl2 : (n.vals.insertIdx i cell).length = n.vals.length + 1 := by rw [List.length_insertIdx_of_le_length (by rw [hvl]; exact hfle)]
          have hs := hs.pickF 7 [1, 0, 2, 3, 4, 5, 6] rfl rfl
          refine zz ?_
          have hin2 : NdIn (pool ++ [(.slice qx cell.length qxc, cell)] ++ [(.slice qy key.length cy, key)]) (⟨.slice qB (n.keys.length + 1) cB, .slice qV (n.vals.length + 1) cV, .slice qi1 n.kids.length ci1, rk.insertIdx i (.slice qy key.length cy), rv.insertIdx i (.slice qx cell.length qxc)⟩ : NdV) ({ n with keys := n.keys.insertIdx i key, vals := n.vals.insertIdx i cell } : Nd) := ⟨hki.1, hki.2, hvi.1, pool_up (fun x hx => List.mem_append_left _ hx) hvi.2⟩
          have hd := hs.tail
          have hrd2 := hin2.read2 hd (by show RdS _ 1 _ (n.keys.insertIdx i key).length _; rw [hkl2]; exact RdS.of_sl hd.tail) (by show RdS _ 1 _ (n.vals.insertIdx i cell).length _; rw [hvl2]; exact (RdS.of_sl hd.tail.tail).up) (RdS.of_sl hd.tail.tail.tail).up ⟨by show (n.keys.insertIdx i key).length ≤ 1000; have := hfew.keys; omega, by show (n.vals.insertIdx i cell).length ≤ 1000; have := hfew.vals; omega, by show n.kids.length ≤ 1000; have := hfew.kids; omega⟩ (fun k h => by
                      rcases of_ins hfle h with h | h
                      · rw [h]; omega
                      · have := hfew.k k h; omega) (fun k h => by
                      rcases of_ins (by rw [hvl]; exact hfle) h with h | h
                      · rw [h]; omega
                      · have := hfew.v k h; omega)
          refine MC.la true (la_loadV (vs := [bool n.leaf, (⟨.slice qB (n.keys.length + 1) cB, .slice qV (n.vals.length + 1) cV, .slice qi1 n.kids.length ci1, rk.insertIdx i (.slice qy key.length cy), rv.insertIdx i (.slice qx cell.length qxc)⟩ : NdV).sk, (⟨.slice qB (n.keys.length + 1) cB, .slice qV (n.vals.length + 1) cV, .slice qi1 n.kids.length ci1, rk.insertIdx i (.slice qy key.length cy), rv.insertIdx i (.slice qx cell.length qxc)⟩ : NdV).sv, (⟨.slice qB (n.keys.length + 1) cB, .slice qV (n.vals.length + 1) cV, .slice qi1 n.kids.length ci1, rk.insertIdx i (.slice qy key.length cy), rv.insertIdx i (.slice qx cell.length qxc)⟩ : NdV).si]) hs rfl rfl rfl rfl) rfl ?_
          have hsv := tsave_spec (tp := tp) (page := page) hs hrd2.up (fun k h => by have := hfew.c k h; omega) hp
          refine MC.does true (does_call rfl (hsv)) rfl ?_
          rintro _ w (⟨md2, s3, hm3, hmd2, vk2, rfl, hs⟩ | ⟨e, s3, he, hm3, a2, c2, q2, n2, cc2, d2, rfl, hs⟩)
          · obtain ⟨_, qm2, cm2, rfl, _⟩ := hs.sl_len
            refine zz ?_
            refine MC.does true (does_alloc hs) rfl ?_; rintro _ w ⟨b18, rfl, hs⟩
            refine zz ?_
            refine MC.does true (does_store (vs := mdC ((md2.page : Nat) : Int) (pageI md2.other) (.slice qm2 md2.key.length cm2) ((md2.size : Nat) : Int)) hs rfl rfl rfl rfl (all1 rfl) (by simp)) rfl ?_; intro _ w hs; rw [splice_all (by rfl)] at hs
            refine zz ?_
            refine MC.la true (la_loadV (vs := mdC ((md2.page : Nat) : Int) (pageI md2.other) (.slice qm2 md2.key.length cm2) ((md2.size : Nat) : Int)) hs rfl rfl rfl rfl) rfl ?_
            refine zz ?_
            refine MC.does true (does_store (vs := mdC ((md2.page : Nat) : Int) (pageI md2.other) (.slice qm2 md2.key.length cm2) ((md2.size : Nat) : Int)) hs rfl rfl rfl rfl (all1 rfl) (by simp)) rfl ?_; intro _ w hs; rw [splice_all (by rfl)] at hs
            refine zz ?_
            refine MC.retR (vs := [.agg (mdC ((md2.page : Nat) : Int) (pageI md2.other) (.slice qm2 md2.key.length cm2) ((md2.size : Nat) : Int)).toArray, bool true, int 0]) ⟨⟨⟨b10, 0, none⟩, rfl, load_cellA hs rfl⟩, rfl, rfl, trivial⟩ ?_
            exact .inl ⟨(md2, true), s3, hmod _ _ (.inr ⟨(), s', ⟨rfl, rfl⟩, .inr ⟨md2, s3, hm3, rfl, rfl⟩⟩), hmd2, .slice qm2 md2.key.length cm2, rfl, hs.pickF 9 [1, 2] rfl rfl⟩
          · refine zz ?_
            refine MC.does true (does_alloc hs) rfl ?_; rintro _ w ⟨b18, rfl, hs⟩
            refine zz ?_
            refine MC.does true (does_store (vs := mdC a2 c2 (.slice q2 n2 cc2) d2) hs rfl rfl rfl rfl (all1 rfl) (by simp)) rfl ?_; intro _ w hs; rw [splice_all (by rfl)] at hs
            refine zz ?_
            refine MC.la true (la_loadV (vs := mdC a2 c2 (.slice q2 n2 cc2) d2) hs rfl rfl rfl rfl) rfl ?_
            refine zz ?_
            refine MC.does true (does_store (vs := mdC a2 c2 (.slice q2 n2 cc2) d2) hs rfl rfl rfl rfl (all1 rfl) (by simp)) rfl ?_; intro _ w hs; rw [splice_all (by rfl)] at hs
            refine zz ?_
            refine MC.retR (vs := [.agg (mdC a2 c2 (.slice q2 n2 cc2) d2).toArray, bool true, int e]) ⟨⟨⟨b10, 0, none⟩, rfl, load_cellA hs rfl⟩, rfl, rfl, trivial⟩ ?_
            exact .inr ⟨e, s3, he, hmod _ _ (.inr ⟨(), s', ⟨rfl, rfl⟩, .inl ⟨e, hm3, rfl⟩⟩), _, _, _, _, _, _, _, rfl, hs.pickF 8 [1] rfl rfl⟩
    · refine zz ?_
      refine MC.does true (does_alloc hs) rfl ?_; rintro _ w ⟨b13, rfl, hs⟩
      refine zz ?_
      refine MC.does true (does_store (vs := [bool lf, .slice q1 n1 c1, .slice q2 n2 c2, .slice q3 n3 c3]) hs rfl rfl rfl rfl (all1 rfl) (by simp)) rfl ?_; intro _ w hs; rw [splice_all (by rfl)] at hs
      refine zz ?_
      refine MC.pure (f := true) (po_build (ls := []) (out := mdC 0 0 (.slice none 0 0) 0) rfl rfl trivial rfl) rfl ?_
      refine zz ?_
      refine MC.does true (does_store (vs := mdC 0 0 (.slice none 0 0) 0) hs rfl rfl rfl rfl (all1 rfl) (by simp)) rfl ?_; intro _ w hs; rw [splice_all (by rfl)] at hs
      refine zz ?_
      refine MC.retR (vs := [.agg (mdC 0 0 (.slice none 0 0) 0).toArray, bool false, int e]) ⟨⟨⟨b10, 0, none⟩, rfl, load_cellA hs rfl⟩, rfl, rfl, trivial⟩ ?_
      exact .inr ⟨e, s', he, .inl ⟨e, hm, rfl⟩, _, _, _, _, _, _, _, rfl, hs.pickF 4 [1] rfl rfl⟩
  | succ hh ih =>
    intro F G s w page vk vc key cell hs hA hkey hkl hcl hp hhh
    obtain ⟨qk, qc, rfl, _, _⟩ := hkey.shape
    obtain ⟨_, qx, qxc, rfl, _⟩ := hs.tail.sl_len
    refine Ret.enter [(true, ptr tp), (true, int ((page : Nat) : Int)), (true, int (((hh + 1 : Nat) : Int) + 1)), (true, .slice qk key.length qc), (true, .slice qx cell.length qxc)] _ Tryz.func34 rfl Tryz.ntmps34 rfl ?_
    refine zz ?_
    refine MC.does true (does_alloc hs) rfl ?_; rintro _ w ⟨b10, rfl, hs⟩
    refine zz ?_
    have hlv := levelM_spec (tp := tp) (hh := hh + 1) hs.swap hp
    refine MC.does true (does_call rfl (hlv)) rfl ?_
    rintro _ w (⟨n, s', hm, hri, ⟨sk, sv, si, rk, rv⟩, pool, hin, hfew, rfl, hs⟩ | ⟨e, s', he, hm, lf, q1, n1, c1, q2, n2, c2, q3, n3, c3, rfl, hs⟩)
    · obtain ⟨e1, hlf⟩ := level_same hm
      obtain ⟨_, qk1, ck1, rfl, _⟩ := hs.tail.sl_len
      obtain ⟨_, qv1, cv1, rfl, _⟩ := hs.tail.tail.sl_len
      obtain ⟨_, qi1, ci1, rfl, _⟩ := hs.tail.tail.tail.sl_len
      have hlf : n.leaf = false := hlf
      have h3 := hri.1.2.2
      rw [if_neg (by rw [hlf]; decide)] at h3
      obtain ⟨hv0, hkk, hk8⟩ := h3
      have hs := hs.pickF 7 [4, 0, 1, 2, 3, 5, 6] rfl rfl
      refine zz ?_
      refine MC.does true (does_alloc hs) rfl ?_; rintro _ w ⟨b13, rfl, hs⟩
      refine zz ?_
      refine MC.does true (does_store (vs := [bool n.leaf, .slice qk1 n.keys.length ck1, .slice qv1 n.vals.length cv1, .slice qi1 n.kids.length ci1]) hs rfl rfl rfl rfl (all1 rfl) (by simp)) rfl ?_; intro _ w hs; rw [splice_all (by rfl)] at hs
      refine zz ?_
      refine MC.la true (la_loadV (vs := [bool n.leaf, .slice qk1 n.keys.length ck1, .slice qv1 n.vals.length cv1, .slice qi1 n.kids.length ci1]) hs rfl rfl rfl rfl) rfl ?_
      refine zz ?_
      have hrd := hin.read (F := _) hfew hs.tail.tail
      have hfd := nfind_spec hs hrd.up (hkey.up)
      refine MC.does true (does_call rfl (hfd)) rfl ?_
      rintro _ w ⟨rfl, hs⟩
      obtain ⟨hfle, _⟩ := find_le (n := n) (key := key)
      have hmod : ∀ (r : Res (Md × Bool)) (s2 : St), ((insertM z.E (hh + 1) (n.kids.getD (n.find key).1 0) key cell).bind fun y => (renewM z.E page n (n.find key).1 y.1).bind fun m => M.pure (m, y.2)) s' r s2 → insertM z.E (hh + 1 + 1) page key cell s r s2 := fun r s2 hr => by
        unfold insertM
        refine .inr ⟨n, s', hm, ?_⟩
        dsimp only []
        rw [if_neg (by omega)]
        exact hr
      generalize (n.find key).1 = i at *
      have hiv : i < n.kids.length := by omega
      have hgd : n.kids.getD i 0 = n.kids[i] := by rw [List.getD_eq_getElem?_getD, List.getElem?_eq_getElem hiv]; rfl
      rw [hgd] at hmod
      have hk8i := hk8 _ (List.getElem_mem hiv)
      obtain ⟨kb, ko, hq, hkr⟩ := hrd.kids.at_ (by omega)
      subst hq
      have hat : (bufV n.kids)[((i : Nat) : Int).toNat * 1]? = some (int ((n.kids[i] : Nat) : Int)) := by
        rw [Int.toNat_natCast, Nat.mul_one]; simp [bufV, hiv]
      refine zz ?_
      refine MC.la true (la_load1_rd hkr hs (j := ((i : Nat) : Int).toNat * 1) rfl hat) rfl ?_
      have eh : (((hh + 1 : Nat) : Int) + 1 - 1) = ((hh : Nat) : Int) + 1 := by omega
      have hs := hs.pickF 8 [1, 7, 0, 2, 3, 4, 5, 6] rfl rfl
      refine zz ?_
      have hcall := ih hs inferInstance hkey.up hkl hcl (show n.kids[i] ≤ 100000 by omega) (by omega)
      rw [eh]
      refine MC.does true (does_call rfl (hcall)) rfl ?_
      rintro _ w (⟨⟨md, fr⟩, s2, hm2, hmd, vk2, rfl, hs⟩ | ⟨e, s2, he, hm2, a2, c2, q2, n2, cc2, d2, t2, rfl, hs⟩)
      · dsimp only [] at hmd hs
        obtain ⟨_, qm, cm, rfl, _⟩ := hs.sl_len
        refine zz ?_
        refine MC.does true (does_alloc hs) rfl ?_; rintro _ w ⟨b20, rfl, hs⟩
        refine zz ?_
        refine MC.does true (does_store (vs := mdC ((md.page : Nat) : Int) (pageI md.other) (.slice qm md.key.length cm) ((md.size : Nat) : Int)) hs rfl rfl rfl rfl (all1 rfl) (by simp)) rfl ?_; intro _ w hs; rw [splice_all (by rfl)] at hs
        refine zz ?_
        refine MC.la true (la_loadV (vs := [bool n.leaf, .slice qk1 n.keys.length ck1, .slice qv1 n.vals.length cv1, .slice (some ⟨kb, ko, none⟩) n.kids.length ci1]) hs rfl rfl rfl rfl) rfl ?_
        refine zz ?_
        refine MC.la true (la_loadV (vs := mdC ((md.page : Nat) : Int) (pageI md.other) (.slice qm md.key.length cm) ((md.size : Nat) : Int)) hs rfl rfl rfl rfl) rfl ?_
        have hs := hs.pickF 8 [2, 1, 4, 5, 6, 7, 0, 3] rfl rfl
        have hrn := trenew_spec (tp := tp) (page := page) (i := i) (md := md) hs hin hfew hiv hfle hmd hp
        refine MC.does true (does_call rfl (hrn)) rfl ?_
        rintro _ w (⟨md2, s3, hm3, hmd2, vk3, rfl, hs⟩ | ⟨e, s3, he, hm3, a2, c2, q2, n2, cc2, d2, rfl, hs⟩)
        · obtain ⟨_, qm2, cm2, rfl, _⟩ := hs.sl_len
          refine zz ?_
          refine MC.does true (does_alloc hs) rfl ?_; rintro _ w ⟨b22, rfl, hs⟩
          refine zz ?_
          refine MC.does true (does_store (vs := mdC ((md2.page : Nat) : Int) (pageI md2.other) (.slice qm2 md2.key.length cm2) ((md2.size : Nat) : Int)) hs rfl rfl rfl rfl (all1 rfl) (by simp)) rfl ?_; intro _ w hs; rw [splice_all (by rfl)] at hs
          refine zz ?_
          refine MC.la true (la_loadV (vs := mdC ((md2.page : Nat) : Int) (pageI md2.other) (.slice qm2 md2.key.length cm2) ((md2.size : Nat) : Int)) hs rfl rfl rfl rfl) rfl ?_
          refine zz ?_
          refine MC.does true (does_store (vs := mdC ((md2.page : Nat) : Int) (pageI md2.other) (.slice qm2 md2.key.length cm2) ((md2.size : Nat) : Int)) hs rfl rfl rfl rfl (all1 rfl) (by simp)) rfl ?_; intro _ w hs; rw [splice_all (by rfl)] at hs
          refine zz ?_
          refine MC.retR (vs := [.agg (mdC ((md2.page : Nat) : Int) (pageI md2.other) (.slice qm2 md2.key.length cm2) ((md2.size : Nat) : Int)).toArray, bool fr, int 0]) ⟨⟨⟨b10, 0, none⟩, rfl, load_cellA hs rfl⟩, rfl, rfl, trivial⟩ ?_
          exact .inl ⟨(md2, fr), s3, hmod _ _ (.inr ⟨(md, fr), s2, hm2, .inr ⟨md2, s3, hm3, rfl, rfl⟩⟩), hmd2, .slice qm2 md2.key.length cm2, rfl, hs.pickF 6 [1, 2] rfl rfl⟩
        · refine zz ?_
          refine MC.does true (does_alloc hs) rfl ?_; rintro _ w ⟨b22, rfl, hs⟩
          refine zz ?_
          refine MC.does true (does_store (vs := mdC a2 c2 (.slice q2 n2 cc2) d2) hs rfl rfl rfl rfl (all1 rfl) (by simp)) rfl ?_; intro _ w hs; rw [splice_all (by rfl)] at hs
          refine zz ?_
          refine MC.la true (la_loadV (vs := mdC a2 c2 (.slice q2 n2 cc2) d2) hs rfl rfl rfl rfl) rfl ?_
          refine zz ?_
          refine MC.does true (does_store (vs := mdC a2 c2 (.slice q2 n2 cc2) d2) hs rfl rfl rfl rfl (all1 rfl) (by simp)) rfl ?_; intro _ w hs; rw [splice_all (by rfl)] at hs
          refine zz ?_
          refine MC.retR (vs := [.agg (mdC a2 c2 (.slice q2 n2 cc2) d2).toArray, bool fr, int e]) ⟨⟨⟨b10, 0, none⟩, rfl, load_cellA hs rfl⟩, rfl, rfl, trivial⟩ ?_
          exact .inr ⟨e, s3, he, hmod _ _ (.inr ⟨(md, fr), s2, hm2, .inl ⟨e, hm3, rfl⟩⟩), _, _, _, _, _, _, _, rfl, hs.pickF 5 [1] rfl rfl⟩
      · refine zz ?_
        refine MC.does true (does_alloc hs) rfl ?_; rintro _ w ⟨b20, rfl, hs⟩
        refine zz ?_
        refine MC.does true (does_store (vs := mdC a2 c2 (.slice q2 n2 cc2) d2) hs rfl rfl rfl rfl (all1 rfl) (by simp)) rfl ?_; intro _ w hs; rw [splice_all (by rfl)] at hs
        refine zz ?_
        refine MC.pure (f := true) (po_build (ls := []) (out := mdC 0 0 (.slice none 0 0) 0) rfl rfl trivial rfl) rfl ?_
        refine zz ?_
        refine MC.does true (does_store (vs := mdC 0 0 (.slice none 0 0) 0) hs rfl rfl rfl rfl (all1 rfl) (by simp)) rfl ?_; intro _ w hs; rw [splice_all (by rfl)] at hs
        refine zz ?_
        refine MC.retR (vs := [.agg (mdC 0 0 (.slice none 0 0) 0).toArray, bool false, int e]) ⟨⟨⟨b10, 0, none⟩, rfl, load_cellA hs rfl⟩, rfl, rfl, trivial⟩ ?_
        exact .inr ⟨e, s2, he, hmod _ _ (.inl ⟨e, hm2, rfl⟩), _, _, _, _, _, _, _, rfl, hs.pickF 8 [1] rfl rfl⟩
    · refine zz ?_
      refine MC.does true (does_alloc hs) rfl ?_; rintro _ w ⟨b13, rfl, hs⟩
      refine zz ?_
      refine MC.does true (does_store (vs := [bool lf, .slice q1 n1 c1, .slice q2 n2 c2, .slice q3 n3 c3]) hs rfl rfl rfl rfl (all1 rfl) (by simp)) rfl ?_; intro _ w hs; rw [splice_all (by rfl)] at hs
      refine zz ?_
      refine MC.pure (f := true) (po_build (ls := []) (out := mdC 0 0 (.slice none 0 0) 0) rfl rfl trivial rfl) rfl ?_
      refine zz ?_
      refine MC.does true (does_store (vs := mdC 0 0 (.slice none 0 0) 0) hs rfl rfl rfl rfl (all1 rfl) (by simp)) rfl ?_; intro _ w hs; rw [splice_all (by rfl)] at hs
      refine zz ?_
      refine MC.retR (vs := [.agg (mdC 0 0 (.slice none 0 0) 0).toArray, bool false, int e]) ⟨⟨⟨b10, 0, none⟩, rfl, load_cellA hs rfl⟩, rfl, rfl, trivial⟩ ?_
      exact .inr ⟨e, s', he, .inl ⟨e, hm, rfl⟩, _, _, _, _, _, _, _, rfl, hs.pickF 4 [1] rfl rfl⟩
end
end Go.Proofs.YtjlofdodiaklaaaGreat
