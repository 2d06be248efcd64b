/-
  Trees: read, level, far, value, cell, lose | Trees: cell, put, save | Trees: save
-/
import Derived.Test.YtjlofdodiaklaaaGreatYaz
set_option maxHeartbeats 1000000
set_option linter.unusedVariables false
set_option linter.unusedSimpArgs false
namespace Go.Proofs.YtjlofdodiaklaaaGreat
open Go Go.Sl Go.Tr
attribute [local irreducible] LooksAt

section
variable {F : List Assn} {G : List Value → List Assn} {z : Pw} {s : St} {mk : Option (Nat × St)} {w : World} {tp : Nat} {r h c : Value}
def OutN (m : M Nd) (z : Pw) (s : St) (mk : Option (Nat × St)) (F : List Assn) : Value → World → Prop := Out m s
  (fun n s' v w => n.right ∧ ∃ y pool, NdIn pool y n ∧ Few n ∧ v = .tuple #[y.val n, int 0] ∧ Sat (ndP pool y n (pgr z s' mk :: F)) w)
  (fun e s' v w => ∃ lf q1 n1 c1 q2 n2 c2 q3 n3 c3, v = .tuple #[.agg [bool lf, .slice q1 n1 c1, .slice q2 n2 c2, .slice q3 n3 c3].toArray, int e] ∧ Sat (pgr z s' mk :: F) w)
theorem tread_spec {page : Nat} (hs : Sat (pgr z s mk :: F) w) [hA : At F tp [ptr z.p, r, h, c] 89 G] (hp : page ≤ 100000) :
    Ret Tryz.prog 76 [ptr tp, int ((page : Nat) : Int)] w (OutN (nodeM z.E page) z s mk F) := by
  refine Ret.enter [(true, ptr tp), (true, int ((page : Nat) : Int))] _ Tryz.func76 rfl Tryz.ntmps76 rfl ?_
  refine zz ?_
  refine MC.does true (does_alloc hs) rfl ?_; rintro _ w ⟨b4, rfl, hs⟩
  refine zz ?_
  have hg := pget_spec hs.swap hp
  refine MC.does true (does_call rfl (hg)) rfl ?_
  rintro _ w (⟨b, s', hm, vb, rfl, hbl, hs⟩ | ⟨e, s', he, hm, vb, rfl, hs⟩)
  · obtain ⟨_, q, cb, rfl, _⟩ := hs.sl_len
    have hs := hs.pickF 3 [0, 2, 1] rfl rfl
    have hrd := nread_spec hs (RdS.of_sl hs)
    refine zz ?_
    refine MC.does true (does_call rfl (hrd)) rfl ?_
    intro v w hv
    cases hn : readN b with
    | none =>
      rw [hn] at hv
      obtain ⟨rfl, hs⟩ := hv
      refine zz ?_
      refine MC.does true (does_store (vs := [bool false, .slice none 0 0, .slice none 0 0, .slice none 0 0]) hs rfl rfl rfl rfl (all1 rfl) (by simp)) rfl ?_; intro _ w hs; rw [splice_all (by rfl)] at hs
      refine zz ?_
      refine MC.retR (vs := [.agg [bool false, .slice none 0 0, .slice none 0 0, .slice none 0 0].toArray, int 200]) ⟨⟨⟨b4, 0, none⟩, rfl, load_cellA hs rfl⟩, rfl, trivial⟩ ?_
      exact .inr ⟨200, s', by decide, .inr ⟨b, s', hm, by dsimp only []; rw [hn]; exact ⟨rfl, rfl⟩⟩, _, _, _, _, _, _, _, _, _, _, rfl, hs.pickF 3 [2] rfl rfl⟩
    | some n =>
      rw [hn] at hv
      obtain ⟨y, pool, hin, hfew, rfl, hs⟩ := hv
      obtain ⟨sk, sv, si, rk, rv⟩ := y
      obtain ⟨_, qk, ck, rfl, _⟩ := (hs.pickF 4 [1, 0, 2, 3] rfl rfl).sl_len
      obtain ⟨_, qv, cv, rfl, _⟩ := (hs.pickF 4 [2, 0, 1, 3] rfl rfl).sl_len
      obtain ⟨_, qi, ci, rfl, _⟩ := (hs.pickF 4 [3, 0, 1, 2] rfl rfl).sl_len
      refine zz ?_
      refine MC.does true (does_store (vs := [bool n.leaf, .slice qk n.keys.length ck, .slice qv n.vals.length cv, .slice qi n.kids.length ci]) hs rfl rfl rfl rfl (all1 rfl) (by simp)) rfl ?_; intro _ w hs; rw [splice_all (by rfl)] at hs
      refine zz ?_
      refine MC.retR (vs := [.agg [bool n.leaf, .slice qk n.keys.length ck, .slice qv n.vals.length cv, .slice qi n.kids.length ci].toArray, int 0]) ⟨⟨⟨b4, 0, none⟩, rfl, load_cellA hs rfl⟩, rfl, trivial⟩ ?_
      refine .inl ⟨n, s', .inr ⟨b, s', hm, by dsimp only []; rw [hn]; exact ⟨rfl, rfl⟩⟩, (readN_some hn).1, ⟨.slice qk n.keys.length ck, .slice qv n.vals.length cv, .slice qi n.kids.length ci, rk, rv⟩, pool, hin, hfew, rfl, ?_⟩
      exact hs.pickF 7 [0, 1, 2, 3, 6] rfl rfl
  · refine zz ?_
    refine MC.pure (f := true) (po_build (ls := []) (out := [bool false, .slice none 0 0, .slice none 0 0, .slice none 0 0]) rfl rfl trivial rfl) rfl ?_
    refine zz ?_
    refine MC.does true (does_store (vs := [bool false, .slice none 0 0, .slice none 0 0, .slice none 0 0]) hs rfl rfl rfl rfl (all1 rfl) (by simp)) rfl ?_; intro _ w hs; rw [splice_all (by rfl)] at hs
    refine zz ?_
    refine MC.retR (vs := [.agg [bool false, .slice none 0 0, .slice none 0 0, .slice none 0 0].toArray, int e]) ⟨⟨⟨b4, 0, none⟩, rfl, load_cellA hs rfl⟩, rfl, trivial⟩ ?_
    exact .inr ⟨e, s', he, .inl ⟨e, hm, rfl⟩, _, _, _, _, _, _, _, _, _, _, rfl, hs.pickF 2 [0] rfl rfl⟩
theorem level_of {E : En} {p : Nat} {low : Bool} {s' : St} {n : Nd} (h : nodeM E p s (.ok n) s') : levelM E p low s (if n.leaf = low then .ok n else .err 200) s' := by
  rcases h with ⟨e, _, h⟩ | ⟨b, s1, h1, h2⟩
  · cases h
  · refine .inr ⟨b, s1, h1, ?_⟩
    dsimp only [] at h2 ⊢
    cases hn : readN b with
    | none => rw [hn] at h2; cases h2.1
    | some m =>
      rw [hn] at h2
      obtain ⟨h3, rfl⟩ := h2
      cases h3
      dsimp only []
      by_cases hl : n.leaf = low
      · rw [if_pos hl, if_pos hl]; exact ⟨rfl, rfl⟩
      · rw [if_neg hl, if_neg hl]; exact ⟨rfl, rfl⟩
theorem level_err {E : En} {p : Nat} {low : Bool} {s' : St} {e : Int} (h : nodeM E p s (.err e) s') : levelM E p low s (.err e) s' := by
  rcases h with ⟨e', h1, h⟩ | ⟨b, s1, h1, h2⟩
  · exact .inl ⟨e', h1, h⟩
  · refine .inr ⟨b, s1, h1, ?_⟩
    dsimp only [] at h2 ⊢
    cases hn : readN b with
    | none => rw [hn] at h2; exact h2
    | some m => rw [hn] at h2; cases h2.1
theorem tlevel_spec {page : Nat} {hh : Nat} (hs : Sat (pgr z s mk :: F) w) [hA : At F tp [ptr z.p, r, h, c] 89 G] (hp : page ≤ 100000) :
    Ret Tryz.prog 67 [ptr tp, int ((page : Nat) : Int), int ((hh : Nat) : Int)] w (OutN (levelM z.E page (hh == 1)) z s mk F) := by
  refine Ret.enter [(true, ptr tp), (true, int ((page : Nat) : Int)), (true, int ((hh : Nat) : Int))] _ Tryz.func67 rfl Tryz.ntmps67 rfl ?_
  refine zz ?_
  refine MC.does true (does_alloc hs) rfl ?_; rintro _ w ⟨b6, rfl, hs⟩
  refine zz ?_
  have hg := tread_spec (tp := tp) hs.swap hp
  refine MC.does true (does_call rfl (hg)) rfl ?_
  rintro _ w (⟨n, s', hm, hri, y, pool, hin, hfew, rfl, hs⟩ | ⟨e, s', he, hm, lf, q1, n1, c1, q2, n2, c2, q3, n3, c3, rfl, hs⟩)
  · obtain ⟨sk, sv, si, rk, rv⟩ := y
    obtain ⟨_, qk, ck, rfl, _⟩ := (hs.pickF 4 [1, 0, 2, 3] rfl rfl).sl_len
    obtain ⟨_, qv, cv, rfl, _⟩ := (hs.pickF 4 [2, 0, 1, 3] rfl rfl).sl_len
    obtain ⟨_, qi, ci, rfl, _⟩ := (hs.pickF 4 [3, 0, 1, 2] rfl rfl).sl_len
    refine zz ?_
    refine MC.does true (does_alloc hs) rfl ?_; rintro _ w ⟨b8, rfl, hs⟩
    refine zz ?_
    refine MC.does true (does_store (vs := [bool n.leaf, .slice qk n.keys.length ck, .slice qv n.vals.length cv, .slice qi n.kids.length ci]) hs rfl rfl rfl rfl (all1 rfl) (by simp)) rfl ?_; intro _ w hs; rw [splice_all (by rfl)] at hs
    refine zz ?_
    refine MC.pure (f := true) (po_bin rfl rfl br_bool_ne) rfl ?_
    have hl := level_of (low := hh == 1) hm
    have h1 : (decide (((hh : Nat) : Int) = 1)) = (hh == 1) := by
      rw [show (hh == 1) = decide (hh = 1) from rfl, decide_eq_decide]; omega
    rw [h1]
    by_cases hle : n.leaf = (hh == 1)
    · rw [if_pos hle] at hl
      rw [decide_eq_false (fun h => h hle)]
      refine zz ?_
      refine MC.la true (la_loadV (vs := [bool n.leaf, .slice qk n.keys.length ck, .slice qv n.vals.length cv, .slice qi n.kids.length ci]) hs rfl rfl rfl rfl) rfl ?_
      refine zz ?_
      refine MC.does true (does_store (vs := [bool n.leaf, .slice qk n.keys.length ck, .slice qv n.vals.length cv, .slice qi n.kids.length ci]) hs rfl rfl rfl rfl (all1 rfl) (by simp)) rfl ?_; intro _ w hs; rw [splice_all (by rfl)] at hs
      refine zz ?_
      refine MC.retR (vs := [.agg [bool n.leaf, .slice qk n.keys.length ck, .slice qv n.vals.length cv, .slice qi n.kids.length ci].toArray, int 0]) ⟨⟨⟨b6, 0, none⟩, rfl, load_cellA hs rfl⟩, rfl, trivial⟩ ?_
      exact .inl ⟨n, s', hl, hri, ⟨.slice qk n.keys.length ck, .slice qv n.vals.length cv, .slice qi n.kids.length ci, rk, rv⟩, pool, hin, hfew, rfl, hs.pickF 7 [1, 2, 3, 4, 5] rfl rfl⟩
    · rw [if_neg hle] at hl
      rw [decide_eq_true hle]
      refine zz ?_
      refine MC.la true (la_loadV (vs := [bool n.leaf, .slice qk n.keys.length ck, .slice qv n.vals.length cv, .slice qi n.kids.length ci]) hs rfl rfl rfl rfl) rfl ?_
      refine zz ?_
      refine MC.does true (does_store (vs := [bool n.leaf, .slice qk n.keys.length ck, .slice qv n.vals.length cv, .slice qi n.kids.length ci]) hs rfl rfl rfl rfl (all1 rfl) (by simp)) rfl ?_; intro _ w hs; rw [splice_all (by rfl)] at hs
      refine zz ?_
      refine MC.retR (vs := [.agg [bool n.leaf, .slice qk n.keys.length ck, .slice qv n.vals.length cv, .slice qi n.kids.length ci].toArray, int 200]) ⟨⟨⟨b6, 0, none⟩, rfl, load_cellA hs rfl⟩, rfl, trivial⟩ ?_
      exact .inr ⟨200, s', by decide, hl, _, _, _, _, _, _, _, _, _, _, rfl, hs.pickF 7 [5] rfl rfl⟩
  · refine zz ?_
    refine MC.does true (does_alloc hs) rfl ?_; rintro _ w ⟨b8, rfl, hs⟩
    refine zz ?_
    refine MC.does true (does_store (vs := [bool lf, .slice q1 n1 c1, .slice q2 n2 c2, .slice q3 n3 c3]) hs rfl rfl rfl rfl (all1 rfl) (by simp)) rfl ?_; intro _ w hs; rw [splice_all (by rfl)] at hs
    refine zz ?_
    refine MC.la true (la_loadV (vs := [bool lf, .slice q1 n1 c1, .slice q2 n2 c2, .slice q3 n3 c3]) hs rfl rfl rfl rfl) rfl ?_
    refine zz ?_
    refine MC.does true (does_store (vs := [bool lf, .slice q1 n1 c1, .slice q2 n2 c2, .slice q3 n3 c3]) hs rfl rfl rfl rfl (all1 rfl) (by simp)) rfl ?_; intro _ w hs; rw [splice_all (by rfl)] at hs
    refine zz ?_
    refine MC.retR (vs := [.agg [bool lf, .slice q1 n1 c1, .slice q2 n2 c2, .slice q3 n3 c3].toArray, int e]) ⟨⟨⟨b6, 0, none⟩, rfl, load_cellA hs rfl⟩, rfl, trivial⟩ ?_
    exact .inr ⟨e, s', he, level_err hm, _, _, _, _, _, _, _, _, _, _, rfl, hs.pickF 3 [1] rfl rfl⟩
theorem far_spec {vc : Value} {cell : Bs} (hs : Sat F w) (hc : RdS F 1 vc cell.length (bytesV cell)) (hcl : cell.length ≤ 1000) :
    Ret Tryz.prog 90 [vc] w fun v w' => v = (match farB cell with
      | some (hd, n) => .tuple #[int ((hd : Nat) : Int), int ((n : Nat) : Int), bool true]
      | none => .tuple #[int 0, int 0, bool false]) ∧ Sat F w' := by
  obtain ⟨p, cc, rfl, hcc, _⟩ := hc.shape
  refine Ret.enter [(true, .slice p cell.length cc)] _ Tryz.func90 rfl Tryz.ntmps90 rfl ?_
  refine zz ?_
  by_cases h7 : cell.length = 7
  · obtain ⟨a, b, c, d, e, f, g, rfl⟩ : ∃ a b c d e f g, cell = [a, b, c, d, e, f, g] := by
      match cell, h7 with
      | [a, b, c, d, e, f, g], _ => exact ⟨a, b, c, d, e, f, g, rfl⟩
    obtain ⟨lb, lo, rfl, hrd⟩ := hc.at_ (by simp)
    have hb := b.toNat_lt
    have hc' := c.toNat_lt
    have hd := d.toNat_lt
    have he := e.toNat_lt
    have hf := f.toNat_lt
    have hg := g.toNat_lt
    refine zz ?_
    refine MC.la true (la_load1_rd hrd hs (j := Int.toNat 0 * 1) rfl (by rfl)) rfl ?_
    by_cases ha : a = 1
    · subst ha
      refine zz ?_
      refine MC.draw hs [0, 1, 2, 3, 4, 5, 6, 7, 8, 9, 10, 11, 12, 13, 14, 15, 16, 17, 18, 19, 20, 21, 22, 23, 24, 25, 26, 27, 28, 29, 30, 31, 32, 33, 34] (by rfl) ?_; intro w hs
      refine zd ?_
      refine MC.laD true (la_load1_rd hrd hs (j := Int.toNat 1 * 1) rfl (by rfl)) rfl ?_
      refine zd ?_
      refine MC.laD true (la_load1_rd hrd hs (j := Int.toNat 2 * 1) rfl (by rfl)) rfl ?_
      refine zd ?_
      refine MC.pure (f := true) (po_bin rfl rfl (br_orS' 8 b.toNat (by omega) (by show ((c.toNat : Nat) : Int) < 256; omega) (by show ((b.toNat : Nat) : Int) * 256 = _; rfl) (by simp [IntKind.max, IntKind.signed, IntKind.bits]; omega))) rfl ?_
      refine zd ?_
      refine MC.laD true (la_load1_rd hrd hs (j := Int.toNat 3 * 1) rfl (by rfl)) rfl ?_
      refine zd ?_
      refine MC.laD true (la_load1_rd hrd hs (j := Int.toNat 4 * 1) rfl (by rfl)) rfl ?_
      refine zd ?_
      refine MC.pure (f := true) (po_bin rfl rfl (br_orS' 24 d.toNat (by omega) (by show ((e.toNat : Nat) : Int) * 65536 < 16777216; omega) (by show ((d.toNat : Nat) : Int) * 16777216 = _; rfl) (by simp [IntKind.max, IntKind.signed, IntKind.bits]; omega))) rfl ?_
      refine zd ?_
      refine MC.laD true (la_load1_rd hrd hs (j := Int.toNat 5 * 1) rfl (by rfl)) rfl ?_
      refine zd ?_
      refine MC.pure (f := true) (po_bin rfl rfl (br_orS' 16 (d.toNat * 256 + e.toNat) (by omega) (by show ((f.toNat : Nat) : Int) * 256 < 65536; omega) (by show ((d.toNat : Nat) : Int) * 16777216 + ((e.toNat : Nat) : Int) * 65536 = ((d.toNat * 256 + e.toNat : Nat) : Int) * 65536; omega) (by simp [IntKind.max, IntKind.signed, IntKind.bits]; omega))) rfl ?_
      refine zd ?_
      refine MC.laD true (la_load1_rd hrd hs (j := Int.toNat 6 * 1) rfl (by rfl)) rfl ?_
      refine zd ?_
      refine MC.pure (f := true) (po_bin rfl rfl (br_orS' 8 ((d.toNat * 256 + e.toNat) * 256 + f.toNat) (by omega) (by show ((g.toNat : Nat) : Int) < 256; omega) (by show ((d.toNat : Nat) : Int) * 16777216 + ((e.toNat : Nat) : Int) * 65536 + ((f.toNat : Nat) : Int) * 256 = (((d.toNat * 256 + e.toNat) * 256 + f.toNat : Nat) : Int) * 256; omega) (by simp [IntKind.max, IntKind.signed, IntKind.bits]; omega))) rfl ?_
      refine zd ?_
      refine zz ?_
      refine MC.ret rfl ?_
      have hf2 : farB [1, b, c, d, e, f, g] = some (b.toNat * 256 + c.toNat, ((d.toNat * 256 + e.toNat) * 256 + f.toNat) * 256 + g.toNat) := rfl
      rw [hf2]
      dsimp only []
      have e1 : ((b.toNat : Nat) : Int) * 256 + ((c.toNat : Nat) : Int) = ((b.toNat * 256 + c.toNat : Nat) : Int) := by omega
      have e2 : ((d.toNat : Nat) : Int) * 16777216 + ((e.toNat : Nat) : Int) * 65536 + ((f.toNat : Nat) : Int) * 256 + ((g.toNat : Nat) : Int) = ((((d.toNat * 256 + e.toNat) * 256 + f.toNat) * 256 + g.toNat : Nat) : Int) := by omega
      rw [← e1, ← e2]
      exact ⟨rfl, hs⟩
    · have ha' : ¬ ((a.toNat : Nat) : Int) = 1 := fun h => ha (UInt8.toNat_inj.1 (by have : (1 : UInt8).toNat = 1 := rfl; omega))
      refine zz ?_
      refine MC.ret rfl ?_
      have : farB [a, b, c, d, e, f, g] = none := if_neg ha
      rw [this]
      exact ⟨rfl, hs⟩
  · refine zz ?_
    refine MC.ret rfl ?_
    have : farB cell = none := by
      unfold farB
      split
      · simp at h7
      · rfl
    rw [this]
    exact ⟨rfl, hs⟩
theorem farB_bd {cell : Bs} {hd n : Nat} (h : farB cell = some (hd, n)) : hd < 65536 ∧ n < 4294967296 := by
  unfold farB at h
  split at h
  · split at h
    · rename_i a b c d e f g _
      have hb := b.toNat_lt
      have hc' := c.toNat_lt
      have hd := d.toNat_lt
      have he := e.toNat_lt
      have hf := f.toNat_lt
      have hg := g.toNat_lt
      cases h
      omega
    · cases h
  · cases h
theorem tvalue_spec {vc : Value} {cell : Bs} (hs : Sat (pgr z s mk :: F) w) [hA : At F tp [ptr z.p, r, h, c] 89 G] (hc : RdS F 1 vc cell.length (bytesV cell)) (hcl : cell.length ≤ 1000) :
    Ret Tryz.prog 81 [ptr tp, vc] w (OutV (valueM z.E cell) z s mk F) := by
  have hfar := fun w (hs : Sat (pgr z s mk :: F) w) => far_spec hs hc.up hcl
  obtain ⟨p, cc, rfl, hcc, _⟩ := hc.shape
  refine Ret.enter [(true, ptr tp), (true, .slice p cell.length cc)] _ Tryz.func81 rfl Tryz.ntmps81 rfl ?_
  refine zz ?_
  refine MC.cutAtS 2 (σ := Unit) (fun _ => [(0, true, ptr tp), (1, true, .slice p cell.length cc)]) (fun w => fun w => ¬ cell.getD 0 1 = 0 ∧ Sat (pgr z s mk :: F) w) rfl ?_ ?_
  rotate_left
  · cases cell with
    | nil =>
      refine zz ?_
      exact MC.meetS () (by repeat (first | exact trivial | refine ⟨rfl, ?_⟩)) ⟨by decide, hs⟩
    | cons a l =>
      obtain ⟨lb, lo, rfl, hrd⟩ := hc.at_ (by simp)
      have hl0 : 0 < (a :: l).length := by simp
      refine zz ?_
      refine MC.la true (la_load1_rd hrd hs (j := Int.toNat 0 * 1) rfl (by rfl)) rfl ?_
      by_cases ha : a = 0
      · subst ha
        refine zz ?_
        refine MC.pure (f := true) (po_slice_lo (a := 1) rfl rfl (by omega)) rfl ?_
        have hsub := hc.subLo (a := 1) (by omega)
        have hcb := bclone_spec hs hsub.up (by rw [List.length_drop]; omega)
        refine MC.does true (does_call rfl (hcb)) rfl ?_
        intro vb w hs
        refine zz ?_
        refine MC.ret rfl ?_
        exact .inl ⟨l, s, ⟨rfl, rfl⟩, vb, rfl, hs⟩
      · have ha' : ¬ ((a.toNat : Nat) : Int) = 0 := fun h => ha (UInt8.toNat_inj.1 (by have : (0 : UInt8).toNat = 0 := rfl; omega))
        refine zz ?_
        exact MC.meetS () (by repeat (first | exact trivial | refine ⟨rfl, ?_⟩)) ⟨ha, hs⟩
  · rintro _ w ⟨h0, hs⟩
    dsimp only [List.drop]
    refine zz ?_
    have hcall := hfar w hs
    refine MC.does true (does_call rfl (hcall)) rfl ?_
    rintro v w ⟨rfl, hs⟩
    cases hf : farB cell with
    | none =>
      dsimp only []
      refine zz ?_
      refine MC.ret rfl ?_
      refine .inr ⟨200, s, by decide, ?_, _, rfl, hs⟩
      unfold valueM
      rw [if_neg h0, hf]
      exact ⟨rfl, rfl⟩
    | some x =>
      obtain ⟨hd, n⟩ := x
      dsimp only []
      obtain ⟨hb1, hb2⟩ := farB_bd hf
      refine zz ?_
      have hcall := cget_spec' (head := hd) (size := n) hs (by omega) (by omega)
      refine MC.does true (does_call rfl (hcall)) rfl ?_
      have hv : valueM z.E cell = chainGet z.E hd n := by
        unfold valueM
        rw [if_neg h0, hf]
      rintro _ w (⟨b, s', hm, vb, rfl, hs⟩ | ⟨e, s', he, hm, vb, rfl, hs⟩)
      · refine zz ?_
        refine MC.ret rfl ?_
        exact .inl ⟨b, s', by rw [hv]; exact hm, vb, rfl, hs⟩
      · refine zz ?_
        refine MC.ret rfl ?_
        exact .inr ⟨e, s', he, by rw [hv]; exact hm, vb, rfl, hs⟩
theorem tlose_spec {vc : Value} {cell : Bs} (hs : Sat (pgr z s mk :: F) w) [hA : At F tp [ptr z.p, r, h, c] 89 G] (hc : RdS F 1 vc cell.length (bytesV cell)) (hcl : cell.length ≤ 1000) :
    Ret Tryz.prog 69 [ptr tp, vc] w (OutU (loseM z.E cell) z s mk F) := by
  have hfar := fun w (hs : Sat (pgr z s mk :: F) w) => far_spec hs hc.up hcl
  obtain ⟨p, cc, rfl, hcc, _⟩ := hc.shape
  refine Ret.enter [(true, ptr tp), (true, .slice p cell.length cc)] _ Tryz.func69 rfl Tryz.ntmps69 rfl ?_
  refine zz ?_
  refine MC.cutAtS 2 (σ := Unit) (fun _ => [(0, true, ptr tp), (1, true, .slice p cell.length cc)]) (fun w => fun w => ¬ cell.getD 0 1 = 0 ∧ Sat (pgr z s mk :: F) w) rfl ?_ ?_
  rotate_left
  · cases cell with
    | nil =>
      refine zz ?_
      exact MC.meetS () (by repeat (first | exact trivial | refine ⟨rfl, ?_⟩)) ⟨by decide, hs⟩
    | cons a l =>
      obtain ⟨lb, lo, rfl, hrd⟩ := hc.at_ (by simp)
      have hl0 : 0 < (a :: l).length := by simp
      refine zz ?_
      refine MC.la true (la_load1_rd hrd hs (j := Int.toNat 0 * 1) rfl (by rfl)) rfl ?_
      by_cases ha : a = 0
      · subst ha
        refine zz ?_
        refine MC.ret rfl ?_
        exact .inl ⟨(), s, ⟨rfl, rfl⟩, rfl, hs⟩
      · have ha' : ¬ ((a.toNat : Nat) : Int) = 0 := fun h => ha (UInt8.toNat_inj.1 (by have : (0 : UInt8).toNat = 0 := rfl; omega))
        refine zz ?_
        exact MC.meetS () (by repeat (first | exact trivial | refine ⟨rfl, ?_⟩)) ⟨ha, hs⟩
  · rintro _ w ⟨h0, hs⟩
    dsimp only [List.drop]
    refine zz ?_
    have hcall := hfar w hs
    refine MC.does true (does_call rfl (hcall)) rfl ?_
    rintro v w ⟨rfl, hs⟩
    cases hf : farB cell with
    | none =>
      dsimp only []
      refine zz ?_
      refine MC.ret rfl ?_
      refine .inr ⟨200, s, by decide, ?_, rfl, hs⟩
      unfold loseM
      rw [if_neg h0, hf]
      exact ⟨rfl, rfl⟩
    | some x =>
      obtain ⟨hd, n⟩ := x
      dsimp only []
      obtain ⟨hb1, hb2⟩ := farB_bd hf
      refine zz ?_
      have hcall := cdrop_spec (head := hd) (size := n) hs (by omega) (by omega)
      refine MC.does true (does_call rfl (hcall)) rfl ?_
      have hv : loseM z.E cell = chainDrop z.E hd n := by
        unfold loseM
        rw [if_neg h0, hf]
      rintro _ w (⟨b, s', hm, rfl, hs⟩ | ⟨e, s', he, hm, rfl, hs⟩)
      · refine zz ?_
        refine MC.ret rfl ?_
        exact .inl ⟨b, s', by rw [hv]; exact hm, rfl, hs⟩
      · refine zz ?_
        refine MC.ret rfl ?_
        exact .inr ⟨e, s', he, by rw [hv]; exact hm, rfl, hs⟩
end
end Go.Proofs.YtjlofdodiaklaaaGreat

namespace Go.Proofs.YtjlofdodiaklaaaGreat
open Go Go.Sl Go.Tr
attribute [local irreducible] LooksAt

theorem u8wd (n d : Nat) : IntKind.u8.wrap (((n : Nat) : Int) / ((d : Nat) : Int)) = (((UInt8.ofNat (n / d)).toNat : Nat) : Int) := by
  have := u8w (n / d)
  rwa [Int.natCast_ediv] at this
section
variable {F : List Assn} {G : List Value → List Assn} {z : Pw} {s : St} {mk : Option (Nat × St)} {w : World} {tp : Nat} {r h c : Value}
theorem tcell_spec {vv : Value} {value : Bs} (hs : Sat (pgr z s mk :: F) w) [hA : At F tp [ptr z.p, r, h, c] 89 G] (hv : RdS F 1 vv value.length (bytesV value)) (hvl : value.length ≤ 1000000) :
    Ret Tryz.prog 32 [ptr tp, vv] w (OutV (cellM z.E value) z s mk F) := by
  have hput := cput_spec hs hv hvl
  obtain ⟨p, cc, rfl, hcc, _⟩ := hv.shape
  refine Ret.enter [(true, ptr tp), (true, .slice p value.length cc)] _ Tryz.func32 rfl Tryz.ntmps32 rfl ?_
  by_cases h15 : value.length ≤ 15
  · refine zz ?_
    refine MC.does true (does_buildL hs rfl rfl rfl (all1 rfl) rfl) rfl ?_; rintro _ w ⟨bt, rfl, hs⟩
    have hs := Sat.sl_mk (xs := [.int .u8 0]) (spare := []) (n := 1) (c := 1) (size := 1) hs (Nat.le_refl _) rfl rfl
    refine zz ?_
    refine MC.does true (does_append hs rfl rfl (RdS.src hv (bytesV_one _)) (by omega) (by omega)) rfl ?_
    intro v w hs
    refine zz ?_
    refine MC.ret rfl ?_
    refine .inl ⟨0 :: value, s, ?_, v, rfl, ?_⟩
    · unfold cellM; rw [if_pos h15]; exact ⟨rfl, rfl⟩
    · rw [Nat.add_comm] at hs
      exact hs
  · refine zz ?_
    refine MC.does true (does_call rfl (hput)) rfl ?_
    rintro _ w (⟨k, s', hm, rfl, hs⟩ | ⟨e, s', he, hm, rfl, hs⟩)
    · refine zz ?_
      have e2 : IntKind.u8.wrap (((value.length : Nat) : Int) / 256) = _ := u8wd value.length 256
      have e3 : IntKind.u8.wrap (((value.length : Nat) : Int) / 65536) = _ := u8wd value.length 65536
      have e4 : IntKind.u8.wrap (((value.length : Nat) : Int) / 16777216) = _ := u8wd value.length 16777216
      rw [u8w k, u8w2 k, u8w value.length, e2, e3, e4]
      refine MC.does true (does_buildL hs rfl rfl rfl (all1 rfl) rfl) rfl ?_; rintro _ w ⟨bt, rfl, hs⟩
      refine zz ?_
      refine MC.ret rfl ?_
      refine .inl ⟨[1, UInt8.ofNat (k / 256), UInt8.ofNat k, UInt8.ofNat (value.length / 16777216), UInt8.ofNat (value.length / 65536), UInt8.ofNat (value.length / 256), UInt8.ofNat value.length], s', ?_, _, rfl, ?_⟩
      · unfold cellM; rw [if_neg h15]; exact .inr ⟨k, s', hm, rfl, rfl⟩
      · exact Sat.sl_mk (xs := bytesV _) (spare := []) (n := 7) (c := 7) (size := 1) (by rw [List.append_nil]; exact hs) (Nat.le_refl _) rfl rfl
    · refine zz ?_
      have e2 : IntKind.u8.wrap (((value.length : Nat) : Int) / 256) = _ := u8wd value.length 256
      have e3 : IntKind.u8.wrap (((value.length : Nat) : Int) / 65536) = _ := u8wd value.length 65536
      have e4 : IntKind.u8.wrap (((value.length : Nat) : Int) / 16777216) = _ := u8wd value.length 16777216
      rw [u8w value.length, e2, e3, e4]
      refine MC.does true (does_buildL hs rfl rfl rfl (all1 rfl) rfl) rfl ?_; rintro _ w ⟨bt, rfl, hs⟩
      refine zz ?_
      refine MC.ret rfl ?_
      exact .inr ⟨e, s', he, by unfold cellM; rw [if_neg h15]; exact .inl ⟨e, hm, rfl⟩, _, rfl, hs.tail⟩
theorem pgr_few (hs : Sat (pgr z s mk :: F) w) : z.E.frm + s.kinds.length ≤ 100000 := by
  obtain ⟨g, hg, _, _⟩ := pgr_open hs
  exact hg.x.few
theorem take_lt {E : En} {k : Nat} {s' : St} (h : takeM E s (.ok k) s') : k < E.frm + s.kinds.length := by
  unfold takeM at h
  cases hf : s.kinds.findIdx? (· == 0) with
  | none => rw [hf] at h; cases h.1
  | some i =>
    rw [hf] at h
    obtain ⟨h1, _⟩ := h
    cases h1
    obtain ⟨hi, _⟩ := take_first hf
    omega
theorem put_err {E : En} {k : Nat} {b : Bs} {e : Int} {s' : St} (hb : b.length = 256) (h : putM E k b s (.err e) s') : e = 240 ∧ s' = s ∧ s.kind E k ≠ some 1 := by
  unfold putM at h
  by_cases hk : s.kind E k = some 1
  · rw [if_pos hk, if_pos hb] at h; cases h.1
  · rw [if_neg hk] at h
    obtain ⟨h1, h2⟩ := h; cases h1; exact ⟨rfl, h2, hk⟩
theorem put_okk {E : En} {k : Nat} {b : Bs} {u : Unit} {s' : St} (h : putM E k b s (.ok u) s') : s.kind E k = some 1 ∧ s' = ⟨s.kinds, upd s.by_ k b⟩ := by
  unfold putM at h
  split at h
  · next hk =>
    split at h
    · exact ⟨hk, h.2⟩
    · cases h.1
  · cases h.1
def pageI : Option Nat → Int
  | some p => ((p : Nat) : Int)
  | none => -1
def OutP (m : M Nat) (z : Pw) (s : St) (mk : Option (Nat × St)) (F : List Assn) : Value → World → Prop := Out m s
  (fun k s' v w => k ≤ 100000 ∧ v = .tuple #[int ((k : Nat) : Int), int 0] ∧ Sat (pgr z s' mk :: F) w) (fun e s' v w => ∃ k : Int, v = .tuple #[int k, int e] ∧ Sat (pgr z s' mk :: F) w)
theorem tput_spec {y : NdV} {n : Nd} {page : Option Nat} (hs : Sat (pgr z s mk :: F) w) [hA : At F tp [ptr z.p, r, h, c] 89 G] (hr : NdR F y n) (hkd : ∀ k ∈ n.kids, k ≤ 100000) (hp : ∀ p, page = some p → p ≤ 100000) :
    Ret Tryz.prog 33 [ptr tp, int (pageI page), y.val n] w (OutP (putNM z.E page n) z s mk F) := by
  have hr0 := hr
  have hfew := pgr_few hs
  obtain ⟨sk, sv, si, rk, rv⟩ := y
  obtain ⟨hk, hv, hc, ⟨f1, f2, f3⟩, hks, hvs⟩ := hr
  dsimp only [] at hk hv hc f1 f2 f3 hks hvs
  obtain ⟨pk, ck, rfl, hck, _⟩ := hk.shape
  obtain ⟨pv, cv, rfl, hcv, _⟩ := hv.shape
  obtain ⟨pi, ci, rfl, hci, _⟩ := hc.shape
  refine Ret.enter [(true, ptr tp), (true, int (pageI page)), (true, .agg (ndC n pk pv pi ck cv ci).toArray)] _ Tryz.func33 rfl Tryz.ntmps33 rfl ?_
  refine zz ?_
  refine MC.does true (does_box hs rfl rfl) rfl ?_; rintro _ w ⟨b5, rfl, hs⟩
  refine zz ?_
  refine MC.la true (la_loadV (vs := ndC n pk pv pi ck cv ci) hs rfl rfl rfl rfl) rfl ?_
  have hcall := nbytes_spec hs hr0.up hkd
  refine MC.does true (does_call rfl (hcall)) rfl ?_
  rintro _ w (⟨hri, vb, rfl, hs⟩ | ⟨hri, rfl, hs⟩)
  · have hpl := page_len hri
    rw [← hpl] at hs
    obtain ⟨_, q, cb, rfl, _⟩ := hs.sl_len
    have hs := hs.pickF 3 [2, 0] rfl rfl
    have hnew : ∀ r s', newM z.E n.page page s r s' → (∀ p, page = some p → s.kind z.E p ≠ some 1) → putNM z.E page n s r s' := fun r s' h1 h2 => by
      unfold putNM
      rw [if_neg (fun h => h hri)]
      cases page with
      | none => exact h1
      | some p => dsimp only []; rw [if_neg (h2 p rfl)]; exact h1
    refine zz ?_
    refine MC.cutAtS 1 (σ := Unit) (fun _ => [(0, true, ptr tp), (1, true, int (pageI page)), (8, true, .slice q n.page.length cb)]) (fun _ w => (∀ p, page = some p → s.kind z.E p ≠ some 1) ∧ Sat (pgr z s mk :: sl (.slice q n.page.length cb) 5 1 n.page.length (bytesV n.page) :: F) w) rfl ?_ ?_
    rotate_left
    · cases page with
      | none =>
        dsimp only [pageI]
        refine zz ?_
        exact MC.meetS () (by repeat (first | exact trivial | refine ⟨rfl, ?_⟩)) ⟨fun p h => (by cases h), hs⟩
      | some p =>
        have hp := hp p rfl
        dsimp only [pageI]
        refine zz ?_
        have hput := pput_spec (k := p) hs (RdS.of_sl hs.tail) hp
        refine MC.does true (does_call rfl (hput)) rfl ?_
        rintro _ w (⟨_, s', hm, rfl, hs⟩ | ⟨e, s', he, hm, rfl, hs⟩)
        · obtain ⟨hk1, rfl⟩ := put_okk hm
          refine zz ?_
          refine MC.ret rfl ?_
          refine .inl ⟨p, _, ?_, hp, rfl, hs.pickF 2 [0] rfl rfl⟩
          unfold putNM
          rw [if_neg (fun h => h hri)]
          dsimp only []
          rw [if_pos hk1]
          exact ⟨rfl, rfl⟩
        · obtain ⟨rfl, e2, hk1⟩ := put_err hpl hm
          rw [e2] at hs
          refine zz ?_
          exact MC.meetS () (by repeat (first | exact trivial | refine ⟨rfl, ?_⟩)) ⟨fun p' h => (by cases h; exact hk1), hs⟩
    · rintro _ w ⟨hk1, hs⟩
      dsimp only [List.drop]
      refine zz ?_
      have htk := take_spec hs
      refine MC.does true (does_call rfl (htk)) rfl ?_
      rintro _ w (⟨k, s1, hm, rfl, hs⟩ | ⟨e, s', he, hm, rfl, hs⟩)
      · have hkl := take_lt hm
        refine zz ?_
        refine MC.cutAtS 1 (σ := St) (fun _ => [(0, true, ptr tp), (8, true, .slice q n.page.length cb), (11, true, int ((k : Nat) : Int))]) (fun s2 w => (match page with
          | some p => dropM z.E p
          | none => M.pure ()) s1 (.ok ()) s2 ∧ Sat (pgr z s2 mk :: sl (.slice q n.page.length cb) 5 1 n.page.length (bytesV n.page) :: F) w) rfl ?_ ?_
        rotate_left
        · cases page with
          | none =>
            dsimp only [pageI]
            refine zz ?_
            exact MC.meetS s1 (by repeat (first | exact trivial | refine ⟨rfl, ?_⟩)) ⟨⟨rfl, rfl⟩, hs⟩
          | some p =>
            have hp := hp p rfl
            dsimp only [pageI]
            refine zz ?_
            have hdr := drop_spec (k := p) hs hp
            refine MC.does true (does_call rfl (hdr)) rfl ?_
            rintro _ w (⟨_, s2, hm2, rfl, hs⟩ | ⟨e, s', he, hm2, rfl, hs⟩)
            · refine zz ?_
              exact MC.meetS s2 (by repeat (first | exact trivial | refine ⟨rfl, ?_⟩)) ⟨hm2, hs⟩
            · refine zz ?_
              refine MC.ret rfl ?_
              exact .inr ⟨e, s', he, hnew _ _ (.inr ⟨k, s1, hm, .inl ⟨e, hm2, rfl⟩⟩) hk1, 0, rfl, hs.pickF 2 [0] rfl rfl⟩
        · rintro s2 w ⟨hm2, hs⟩
          dsimp only [List.drop]
          refine zz ?_
          have hput := pput_spec (k := k) hs (RdS.of_sl hs.tail) (by omega)
          refine MC.does true (does_call rfl (hput)) rfl ?_
          rintro _ w (⟨_, s3, hm3, rfl, hs⟩ | ⟨e, s3, he, hm3, rfl, hs⟩)
          · refine zz ?_
            refine MC.ret rfl ?_
            exact .inl ⟨k, s3, hnew _ _ (.inr ⟨k, s1, hm, .inr ⟨(), s2, hm2, .inr ⟨(), s3, hm3, rfl, rfl⟩⟩⟩) hk1, by omega, rfl, hs.pickF 2 [0] rfl rfl⟩
          · refine zz ?_
            refine MC.ret rfl ?_
            exact .inr ⟨e, s3, he, hnew _ _ (.inr ⟨k, s1, hm, .inr ⟨(), s2, hm2, .inl ⟨e, hm3, rfl⟩⟩⟩) hk1, _, rfl, hs.pickF 2 [0] rfl rfl⟩
      · refine zz ?_
        refine MC.ret rfl ?_
        exact .inr ⟨e, s', he, hnew _ _ (.inl ⟨e, hm, rfl⟩) hk1, 0, rfl, hs.pickF 2 [0] rfl rfl⟩
  · refine zz ?_
    refine MC.ret rfl ?_
    refine .inr ⟨200, s, by decide, ?_, 0, rfl, hs.tail⟩
    unfold putNM
    rw [if_pos hri]
    exact ⟨rfl, rfl⟩
end
end Go.Proofs.YtjlofdodiaklaaaGreat

namespace Go.Proofs.YtjlofdodiaklaaaGreat
open Go Go.Sl Go.Tr
attribute [local irreducible] LooksAt

theorem split_sub {n l r : Nd} {key : Bs} (h : n.split = some (l, r, key)) : ((∀ k ∈ l.keys, k ∈ n.keys) ∧ (∀ k ∈ l.vals, k ∈ n.vals) ∧ (∀ k ∈ l.kids, k ∈ n.kids)) ∧ ((∀ k ∈ r.keys, k ∈ n.keys) ∧ (∀ k ∈ r.vals, k ∈ n.vals) ∧ (∀ k ∈ r.kids, k ∈ n.kids)) ∧ (l.keys.length ≤ n.keys.length ∧ l.vals.length ≤ n.vals.length ∧ l.kids.length ≤ n.kids.length) ∧ (r.keys.length ≤ n.keys.length ∧ r.vals.length ≤ n.vals.length ∧ r.kids.length ≤ n.kids.length) ∧ (key = [] ∨ key ∈ n.keys) := by
  have hg : ∀ i, n.keys.getD i [] = [] ∨ n.keys.getD i [] ∈ n.keys := fun i => by
    rcases Nat.lt_or_ge i n.keys.length with h | h
    · rw [getD_at h]; exact .inr (List.getElem_mem h)
    · rw [getD_past h]; exact .inl rfl
  unfold Nd.split at h
  by_cases h1 : ¬ n.sound ∨ n.keys.length < (if n.leaf = true then 2 else 3)
  · rw [if_pos h1] at h; cases h
  · rw [if_neg h1] at h
    by_cases h2 : n.leaf = true
    · rw [if_pos h2] at h
      cases h
      exact ⟨⟨fun k h => List.mem_of_mem_take h, fun k h => List.mem_of_mem_take h, fun k h => (by cases h)⟩, ⟨fun k h => List.mem_of_mem_drop h, fun k h => List.mem_of_mem_drop h, fun k h => (by cases h)⟩, ⟨List.length_take_le' _ _, List.length_take_le' _ _, Nat.zero_le _⟩, ⟨by rw [List.length_drop]; omega, by rw [List.length_drop]; omega, Nat.zero_le _⟩, hg _⟩
    · rw [if_neg h2] at h
      cases h
      exact ⟨⟨fun k h => List.mem_of_mem_take h, fun k h => (by cases h), fun k h => List.mem_of_mem_take h⟩, ⟨fun k h => List.mem_of_mem_drop h, fun k h => (by cases h), fun k h => List.mem_of_mem_drop h⟩, ⟨List.length_take_le' _ _, Nat.zero_le _, List.length_take_le' _ _⟩, ⟨by rw [List.length_drop]; omega, Nat.zero_le _, by rw [List.length_drop]; omega⟩, hg _⟩
theorem NdIn.read2 {G : List Assn} {pool : List (Value × Bs)} {y : NdV} {n : Nd} {w : World} (h : NdIn pool y n) (hs : Sat (bods 5 pool :: G) w) (h1 : RdS G 1 y.sk n.keys.length y.rk) (h2 : RdS G 1 y.sv n.vals.length y.rv) (h3 : RdS G 1 y.si n.kids.length (bufV n.kids))
    (f : n.keys.length ≤ 1000 ∧ n.vals.length ≤ 1000 ∧ n.kids.length ≤ 1000) (hk : ∀ k ∈ n.keys, k.length ≤ 1000) (hv : ∀ k ∈ n.vals, k.length ≤ 1000) : NdR (bods 5 pool :: G) y n := by
  have hp := fun x hx => bods_rd hs (x := x) hx
  refine ⟨⟨h1.up, fun i hi => ?_⟩, ⟨h2.up, fun i hi => ?_⟩, h3.up, f, hk, hv⟩
  · obtain ⟨u, g1, g2⟩ := h.key i n.keys[i] (List.getElem?_eq_getElem hi)
    exact ⟨u, g1, hp _ g2⟩
  · obtain ⟨u, g1, g2⟩ := h.val i n.vals[i] (List.getElem?_eq_getElem hi)
    exact ⟨u, g1, hp _ g2⟩
abbrev mdC (a b : Int) (vk : Value) (d : Int) : List Value := [int a, int b, vk, int d]
section
variable {F : List Assn} {G : List Value → List Assn} {z : Pw} {s : St} {mk : Option (Nat × St)} {w : World} {tp : Nat} {r h c : Value}
structure MdOk (md : Md) : Prop where
  page : md.page ≤ 100000
  other : ∀ o, md.other = some o → o ≤ 100000
  size : md.size ≤ 10000000
  key : md.key.length ≤ 1000
def OutMd (m : M Md) (z : Pw) (s : St) (mk : Option (Nat × St)) (F : List Assn) : Value → World → Prop := Out m s
  (fun md s' v w => MdOk md ∧ ∃ vk, v = .tuple #[.agg (mdC ((md.page : Nat) : Int) (pageI md.other) vk ((md.size : Nat) : Int)).toArray, int 0] ∧ Sat (sl vk 5 1 md.key.length (bytesV md.key) :: pgr z s' mk :: F) w)
  (fun e s' v w => ∃ a b q n c d, v = .tuple #[.agg (mdC a b (.slice q n c) d).toArray, int e] ∧ Sat (pgr z s' mk :: F) w)
theorem size_le {F : List Assn} {y : NdV} {n : Nd} (hr : NdR F y n) : n.size ≤ 3000000 := by
  have h1 := sum_le (cell_le hr.ks hr.vs) n.keys.length
  obtain ⟨f1, f2, f3⟩ := hr.few
  unfold Nd.size
  have : 2002 * n.keys.length ≤ 2002 * 1000 := Nat.mul_le_mul_left _ f1
  split <;> omega
theorem tsave_spec {y : NdV} {n : Nd} {page : Nat} (hs : Sat (pgr z s mk :: F) w) [hA : At F tp [ptr z.p, r, h, c] 89 G] (hr : NdR F y n) (hkd : ∀ k ∈ n.kids, k ≤ 100000) (hp : page ≤ 100000) :
    Ret Tryz.prog 72 [ptr tp, int ((page : Nat) : Int), y.val n] w (OutMd (saveM z.E page n) z s mk F) := by
  have hr0 := hr
  have hszl := size_le hr
  obtain ⟨sk, sv, si, rk, rv⟩ := y
  obtain ⟨hk, hv, hc, ⟨f1, f2, f3⟩, hks, hvs⟩ := hr
  dsimp only [] at hk hv hc f1 f2 f3 hks hvs
  obtain ⟨pk, ck, rfl, hck, _⟩ := hk.shape
  obtain ⟨pv, cv, rfl, hcv, _⟩ := hv.shape
  obtain ⟨pi, ci, rfl, hci, _⟩ := hc.shape
  refine Ret.enter [(true, ptr tp), (true, int ((page : Nat) : Int)), (true, .agg (ndC n pk pv pi ck cv ci).toArray)] _ Tryz.func72 rfl Tryz.ntmps72 rfl ?_
  refine zz ?_
  refine MC.does true (does_box hs rfl rfl) rfl ?_; rintro _ w ⟨b5, rfl, hs⟩
  refine zz ?_
  refine MC.does true (does_alloc hs) rfl ?_; rintro _ w ⟨b6, rfl, hs⟩
  refine zz ?_
  refine MC.la true (la_loadV (vs := ndC n pk pv pi ck cv ci) hs rfl rfl rfl rfl) rfl ?_
  have hcall := right_spec hs hr0.up hkd
  refine MC.does true (does_call rfl (hcall)) rfl ?_
  rintro _ w ⟨rfl, hs⟩
  have hs := hs.pickF 3 [2, 1, 0] rfl rfl
  by_cases hri : n.right
  · rw [decide_eq_true hri]
    refine zz ?_
    refine MC.la true (la_loadV (vs := ndC n pk pv pi ck cv ci) hs rfl rfl rfl rfl) rfl ?_
    have hput := tput_spec (page := some page) (tp := tp) hs hr0.up hkd (fun p h => by cases h; exact hp)
    refine MC.does true (does_call rfl (hput)) rfl ?_
    rintro _ w (⟨k, s', hm, hkl, rfl, hs⟩ | ⟨e, s', he, hm, k, rfl, hs⟩)
    · refine zz ?_
      refine MC.la true (la_loadV (vs := ndC n pk pv pi ck cv ci) hs rfl rfl rfl rfl) rfl ?_
      have hcall := nsize_spec hs hr0.up
      refine MC.does true (does_call rfl (hcall)) rfl ?_
      rintro _ w ⟨rfl, hs⟩
      refine MC.pure (f := true) (po_build (ls := [(0, [int ((k : Nat) : Int)]), (1, [int (-1)]), (3, [int ((n.size : Nat) : Int)])]) (out := mdC ((k : Nat) : Int) (-1) (.slice none 0 0) ((n.size : Nat) : Int)) rfl rfl ⟨⟨_, rfl, by simp⟩, ⟨_, rfl, by simp⟩, ⟨_, rfl, by simp⟩, trivial⟩ rfl) rfl ?_
      refine zz ?_
      refine MC.does true (does_store (vs := mdC ((k : Nat) : Int) (-1) (.slice none 0 0) ((n.size : Nat) : Int)) hs rfl rfl rfl rfl (all1 rfl) (by simp)) rfl ?_; intro _ w hs; rw [splice_all (by rfl)] at hs
      refine zz ?_
      refine MC.retR (vs := [.agg (mdC ((k : Nat) : Int) (-1) (.slice none 0 0) ((n.size : Nat) : Int)).toArray, int 0]) ⟨⟨⟨b6, 0, none⟩, rfl, load_cellA hs rfl⟩, rfl, trivial⟩ ?_
      refine .inl ⟨⟨k, none, [], n.size⟩, s', ?_, ⟨hkl, fun o h => (by cases h), by show n.size ≤ _; omega, Nat.zero_le _⟩, .slice none 0 0, rfl, ((hs.pickF 3 [0] rfl rfl).sl_nil _ _)⟩
      unfold saveM
      rw [if_pos hri]
      exact .inr ⟨k, s', hm, rfl, rfl⟩
    · refine zz ?_
      refine MC.la true (la_loadV (vs := ndC n pk pv pi ck cv ci) hs rfl rfl rfl rfl) rfl ?_
      have hcall := nsize_spec hs hr0.up
      refine MC.does true (does_call rfl (hcall)) rfl ?_
      rintro _ w ⟨rfl, hs⟩
      refine MC.pure (f := true) (po_build (ls := [(0, [int k]), (1, [int (-1)]), (3, [int ((n.size : Nat) : Int)])]) (out := mdC k (-1) (.slice none 0 0) ((n.size : Nat) : Int)) rfl rfl ⟨⟨_, rfl, by simp⟩, ⟨_, rfl, by simp⟩, ⟨_, rfl, by simp⟩, trivial⟩ rfl) rfl ?_
      refine zz ?_
      refine MC.does true (does_store (vs := mdC k (-1) (.slice none 0 0) ((n.size : Nat) : Int)) hs rfl rfl rfl rfl (all1 rfl) (by simp)) rfl ?_; intro _ w hs; rw [splice_all (by rfl)] at hs
      refine zz ?_
      refine MC.retR (vs := [.agg (mdC k (-1) (.slice none 0 0) ((n.size : Nat) : Int)).toArray, int e]) ⟨⟨⟨b6, 0, none⟩, rfl, load_cellA hs rfl⟩, rfl, trivial⟩ ?_
      refine .inr ⟨e, s', he, ?_, _, _, _, _, _, _, rfl, hs.pickF 3 [0] rfl rfl⟩
      unfold saveM
      rw [if_pos hri]
      exact .inl ⟨e, hm, rfl⟩
  · rw [decide_eq_false hri]
    refine zz ?_
    refine MC.la true (la_loadV (vs := ndC n pk pv pi ck cv ci) hs rfl rfl rfl rfl) rfl ?_
    have hcall := split_spec hs hr0.up hkd
    refine MC.does true (does_call rfl (hcall)) rfl ?_
    intro v w hv
    unfold SplitOut at hv
    cases hsp : n.split with
    | none =>
      rw [hsp] at hv
      obtain ⟨rfl, hs⟩ := hv
      refine zz ?_
      refine MC.does true (does_alloc hs) rfl ?_; rintro _ w ⟨b10, rfl, hs⟩
      refine MC.does true (does_alloc hs) rfl ?_; rintro _ w ⟨b11, rfl, hs⟩
      refine MC.does true (does_store (vs := zeroN) hs rfl rfl rfl rfl (all1 rfl) (by simp)) rfl ?_; intro _ w hs; rw [splice_all (by rfl)] at hs
      refine MC.does true (does_store (vs := zeroN) hs rfl rfl rfl rfl (all1 rfl) (by simp)) rfl ?_; intro _ w hs; rw [splice_all (by rfl)] at hs
      refine zz ?_
      refine MC.pure (f := true) (po_build (ls := []) (out := mdC 0 0 (.slice none 0 0) 0) rfl rfl trivial rfl) rfl ?_
      refine zz ?_
      refine MC.does true (does_store (vs := mdC 0 0 (.slice none 0 0) 0) hs rfl rfl rfl rfl (all1 rfl) (by simp)) rfl ?_; intro _ w hs; rw [splice_all (by rfl)] at hs
      refine zz ?_
      refine MC.retR (vs := [.agg (mdC 0 0 (.slice none 0 0) 0).toArray, int 200]) ⟨⟨⟨b6, 0, none⟩, rfl, load_cellA hs rfl⟩, rfl, trivial⟩ ?_
      refine .inr ⟨200, s, by decide, ?_, _, _, _, _, _, _, rfl, hs.pickF 5 [2] rfl rfl⟩
      unfold saveM
      rw [if_neg hri, hsp]
      exact ⟨rfl, rfl⟩
    | some x =>
      obtain ⟨l, r', key⟩ := x
      rw [hsp] at hv
      obtain ⟨yl, yr, vk, pool, hinl, hinr, rfl, hs⟩ := hv
      obtain ⟨⟨l1, l2, l3⟩, ⟨r1, r2, r3⟩, ⟨l4, l5, l6⟩, ⟨r4, r5, r6⟩, hkey⟩ := split_sub hsp
      obtain ⟨lsk, lsv, lsi, lrk, lrv⟩ := yl
      obtain ⟨rsk, rsv, rsi, rrk, rrv⟩ := yr
      dsimp only [] at hs
      obtain ⟨_, q0, c0, rfl, _⟩ := hs.sl_len
      have hs := hs.pickF 11 [8, 9, 10, 1, 2, 3, 4, 5, 6, 7, 0] rfl rfl
      have hd := hs.tail.tail.tail
      obtain ⟨_, q1, c1, rfl, _⟩ := hd.tail.sl_len
      obtain ⟨_, q2, c2, rfl, _⟩ := hd.tail.tail.sl_len
      obtain ⟨_, q3, c3, rfl, _⟩ := hd.tail.tail.tail.sl_len
      obtain ⟨_, q4, c4, rfl, _⟩ := hd.tail.tail.tail.tail.sl_len
      obtain ⟨_, q5, c5, rfl, _⟩ := hd.tail.tail.tail.tail.tail.sl_len
      obtain ⟨_, q6, c6, rfl, _⟩ := hd.tail.tail.tail.tail.tail.tail.sl_len
      have hrl := hinl.read2 hd (RdS.of_sl hd.tail) (RdS.of_sl hd.tail.tail).up (RdS.of_sl hd.tail.tail.tail).up ⟨by omega, by omega, by omega⟩ (fun k h => hks k (l1 k h)) (fun k h => hvs k (l2 k h))
      have hrr := hinr.read2 hd (RdS.of_sl hd.tail.tail.tail.tail).up (RdS.of_sl hd.tail.tail.tail.tail.tail).up (RdS.of_sl hd.tail.tail.tail.tail.tail.tail).up ⟨by omega, by omega, by omega⟩ (fun k h => hks k (r1 k h)) (fun k h => hvs k (r2 k h))
      have hkeyl : key.length ≤ 1000 := by
        rcases hkey with h | h
        · rw [h]; exact Nat.zero_le _
        · exact hks _ h
      have hmm : ∀ (e : Int) (s' : St), (putNM z.E (some page) l s (.err e) s' → saveM z.E page n s (.err e) s') := fun e s' h => by
        unfold saveM; rw [if_neg hri, hsp]; exact .inl ⟨e, h, rfl⟩
      have hm2 : ∀ (a : Nat) (s1 : St) (e : Int) (s' : St), putNM z.E (some page) l s (.ok a) s1 → putNM z.E none r' s1 (.err e) s' → saveM z.E page n s (.err e) s' := fun a s1 e s' h1 h2 => by
        unfold saveM; rw [if_neg hri, hsp]; exact .inr ⟨a, s1, h1, .inl ⟨e, h2, rfl⟩⟩
      have hm3 : ∀ (a : Nat) (s1 : St) (b : Nat) (s' : St), putNM z.E (some page) l s (.ok a) s1 → putNM z.E none r' s1 (.ok b) s' → saveM z.E page n s (.ok ⟨a, some b, key, 256⟩) s' := fun a s1 e s' h1 h2 => by
        unfold saveM; rw [if_neg hri, hsp]; exact .inr ⟨a, s1, h1, .inr ⟨e, s', h2, rfl, rfl⟩⟩
      refine zz ?_
      refine MC.does true (does_alloc hs) rfl ?_; rintro _ w ⟨b10, rfl, hs⟩
      refine MC.does true (does_alloc hs) rfl ?_; rintro _ w ⟨b11, rfl, hs⟩
      refine MC.does true (does_store (vs := [bool l.leaf, .slice q1 l.keys.length c1, .slice q2 l.vals.length c2, .slice q3 l.kids.length c3]) hs rfl rfl rfl rfl (all1 rfl) (by simp)) rfl ?_; intro _ w hs; rw [splice_all (by rfl)] at hs
      refine MC.does true (does_store (vs := [bool r'.leaf, .slice q4 r'.keys.length c4, .slice q5 r'.vals.length c5, .slice q6 r'.kids.length c6]) hs rfl rfl rfl rfl (all1 rfl) (by simp)) rfl ?_; intro _ w hs; rw [splice_all (by rfl)] at hs
      refine zz ?_
      refine MC.la true (la_loadV (vs := [bool l.leaf, .slice q1 l.keys.length c1, .slice q2 l.vals.length c2, .slice q3 l.kids.length c3]) hs rfl rfl rfl rfl) rfl ?_
      have hs := hs.pickF 5 [2, 0, 1, 3, 4] rfl rfl
      have hput := tput_spec (page := some page) (tp := tp) hs hrl.up (fun k h => hkd k (l3 k h)) (fun p h => by cases h; exact hp)
      refine MC.does true (does_call rfl (hput)) rfl ?_
      rintro _ w (⟨ka, s1, hma, hal, rfl, hs⟩ | ⟨e, s', he, hma, ka, rfl, hs⟩)
      · refine zz ?_
        refine MC.la true (la_loadV (vs := [bool r'.leaf, .slice q4 r'.keys.length c4, .slice q5 r'.vals.length c5, .slice q6 r'.kids.length c6]) hs rfl rfl rfl rfl) rfl ?_
        have hput := tput_spec (page := none) (tp := tp) hs hrr.up (fun k h => hkd k (r3 k h)) (fun p h => by cases h)
        refine MC.does true (does_call rfl (hput)) rfl ?_
        rintro _ w (⟨kb, s2, hmb, hbl, rfl, hs⟩ | ⟨e, s', he, hmb, kb, rfl, hs⟩)
        · refine zz ?_
          refine MC.pure (f := true) (po_build (ls := [(0, [int ((ka : Nat) : Int)]), (1, [int ((kb : Nat) : Int)]), (2, [.slice q0 key.length c0]), (3, [int 256])]) (out := mdC ((ka : Nat) : Int) ((kb : Nat) : Int) (.slice q0 key.length c0) 256) rfl rfl ⟨⟨_, rfl, by simp⟩, ⟨_, rfl, by simp⟩, ⟨_, rfl, by simp⟩, ⟨_, rfl, by simp⟩, trivial⟩ rfl) rfl ?_
          refine zz ?_
          refine MC.does true (does_store (vs := mdC ((ka : Nat) : Int) ((kb : Nat) : Int) (.slice q0 key.length c0) 256) hs rfl rfl rfl rfl (all1 rfl) (by simp)) rfl ?_; intro _ w hs; rw [splice_all (by rfl)] at hs
          refine zz ?_
          refine MC.retR (vs := [.agg (mdC ((ka : Nat) : Int) ((kb : Nat) : Int) (.slice q0 key.length c0) 256).toArray, int 0]) ⟨⟨⟨b6, 0, none⟩, rfl, load_cellA hs rfl⟩, rfl, trivial⟩ ?_
          refine .inl ⟨⟨ka, some kb, key, 256⟩, s2, hm3 _ _ _ _ hma hmb, ⟨hal, fun o h => (by cases h; exact hbl), by show 256 ≤ _; omega, hkeyl⟩, .slice q0 key.length c0, rfl, ?_⟩
          exact hs.pickF 13 [12, 0] rfl rfl
        · refine zz ?_
          refine MC.pure (f := true) (po_build (ls := [(0, [int ((ka : Nat) : Int)]), (1, [int kb]), (2, [.slice q0 key.length c0]), (3, [int 256])]) (out := mdC ((ka : Nat) : Int) kb (.slice q0 key.length c0) 256) rfl rfl ⟨⟨_, rfl, by simp⟩, ⟨_, rfl, by simp⟩, ⟨_, rfl, by simp⟩, ⟨_, rfl, by simp⟩, trivial⟩ rfl) rfl ?_
          refine zz ?_
          refine MC.does true (does_store (vs := mdC ((ka : Nat) : Int) kb (.slice q0 key.length c0) 256) hs rfl rfl rfl rfl (all1 rfl) (by simp)) rfl ?_; intro _ w hs; rw [splice_all (by rfl)] at hs
          refine zz ?_
          refine MC.retR (vs := [.agg (mdC ((ka : Nat) : Int) kb (.slice q0 key.length c0) 256).toArray, int e]) ⟨⟨⟨b6, 0, none⟩, rfl, load_cellA hs rfl⟩, rfl, trivial⟩ ?_
          exact .inr ⟨e, s', he, hm2 _ _ _ _ hma hmb, _, _, _, _, _, _, rfl, hs.pickF 13 [0] rfl rfl⟩
      · refine zz ?_
        refine MC.pure (f := true) (po_build (ls := []) (out := mdC 0 0 (.slice none 0 0) 0) rfl rfl trivial rfl) rfl ?_
        refine zz ?_
        refine MC.does true (does_store (vs := mdC 0 0 (.slice none 0 0) 0) hs rfl rfl rfl rfl (all1 rfl) (by simp)) rfl ?_; intro _ w hs; rw [splice_all (by rfl)] at hs
        refine zz ?_
        refine MC.retR (vs := [.agg (mdC 0 0 (.slice none 0 0) 0).toArray, int e]) ⟨⟨⟨b6, 0, none⟩, rfl, load_cellA hs rfl⟩, rfl, trivial⟩ ?_
        exact .inr ⟨e, s', he, hmm _ _ hma, _, _, _, _, _, _, rfl, hs.pickF 13 [0] rfl rfl⟩
end
end Go.Proofs.YtjlofdodiaklaaaGreat
