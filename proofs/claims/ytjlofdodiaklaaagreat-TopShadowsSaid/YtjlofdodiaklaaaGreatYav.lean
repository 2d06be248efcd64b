/-
  Lists: a member put in, a member taken out | Nodes: what one says of one; cell, Size
-/
import Derived.Test.YtjlofdodiaklaaaGreatYau
import Derived.Test.YtjlofdodiaklaaaGreatYan
set_option maxHeartbeats 1000000
set_option linter.unusedVariables false
set_option linter.unusedSimpArgs false
namespace Go.Proofs.YtjlofdodiaklaaaGreat
open Go Go.Sl Go.Tr
attribute [local irreducible] LooksAt

theorem cutAt_in {b o a c size : Nat} (h : a < c) : Sl.cutAt (some ⟨b, o, none⟩) a c size = some ⟨b, o + a * size, none⟩ := by
  unfold Sl.cutAt; rw [if_neg (by omega), Option.map_some, Addr.add_lit]
theorem ins_at {α : Type} {x : α} : ∀ {l : List α} {i : Nat}, i ≤ l.length → l.insertIdx i x = l.take i ++ x :: l.drop i
  | l, 0, _ => rfl
  | [], i + 1, h => by simp at h
  | a :: l, i + 1, h => congrArg (a :: ·) (ins_at (by simpa using h))
theorem of_ins {α : Type} {x y : α} {l : List α} {i : Nat} (hi : i ≤ l.length) (h : y ∈ l.insertIdx i x) : y = x ∨ y ∈ l := by
  rw [ins_at hi] at h
  rcases List.mem_append.1 h with h | h
  · exact .inr (List.mem_of_mem_take h)
  · rcases List.mem_cons.1 h with h | h
    · exact .inl h
    · exact .inr (List.mem_of_mem_drop h)
theorem splice_mid {A B C V : List Value} {o : Nat} (hV : V.length = B.length) (ho : o = A.length) : splice (A ++ (B ++ C)) o V = A ++ (V ++ C) := by
  subst ho
  rw [splice_eq V _ _ (by simp [hV]), List.take_left, ← List.drop_drop, List.drop_left, hV, List.drop_left, List.append_assoc]
theorem splice_two {rows sp : List Value} {x : Value} {i n : Nat} (hn : rows.length = n) (hi : i < n) (hsp : 0 < sp.length) : splice (splice (rows ++ sp) (0 + (i + 1) * 1) (rows.drop i)) (0 + i * 1) [x] = rows.insertIdx i x ++ sp.drop 1 := by
  have hi' : i < rows.length := by omega
  have e1 : rows ++ sp = rows.take (i + 1) ++ ((rows.drop (i + 1) ++ sp.take 1) ++ sp.drop 1) := by
    rw [List.append_assoc, List.take_append_drop, ← List.append_assoc, List.take_append_drop]
  have e2 : rows.take (i + 1) = rows.take i ++ [rows[i]] := List.take_succ_eq_append_getElem hi'
  rw [e1, splice_mid (by simp only [List.length_append, List.length_drop, List.length_take]; omega) (by rw [List.length_take]; omega), e2, List.append_assoc (rows.take i),
    splice_mid (V := [x]) (B := [rows[i]]) rfl (by rw [List.length_take]; omega), ins_at (by omega)]
  simp
theorem splice_three {rows zs sp : List Value} {x : Value} {i n : Nat} (hn : rows.length = n) (hi : i < n) (hz : zs.length = n + 1 - i) : splice (splice (rows.take i ++ zs ++ sp) (0 + i * 1) [x]) (0 + (i + 1) * 1) (rows.drop i) = rows.insertIdx i x ++ sp := by
  cases zs with
  | nil => simp at hz; omega
  | cons z0 zs =>
    have e1 : rows.take i ++ z0 :: zs ++ sp = rows.take i ++ ([z0] ++ (zs ++ sp)) := by simp
    have e2 : rows.take i ++ ([x] ++ (zs ++ sp)) = (rows.take i ++ [x]) ++ (zs ++ sp) := by simp
    rw [e1, splice_mid (V := [x]) (B := [z0]) rfl (by rw [List.length_take]; omega), e2, splice_mid (by simp at hz; rw [List.length_drop]; omega) (by rw [List.length_append, List.length_take]; simp; omega), ins_at (by omega)]
    simp
theorem del_at {α : Type} : ∀ {l : List α} {i : Nat}, l.eraseIdx i = l.take i ++ l.drop (i + 1)
  | [], i => by simp
  | a :: l, 0 => by simp
  | a :: l, i + 1 => congrArg (a :: ·) (del_at (l := l) (i := i))
theorem splice_del {rows zs sp : List Value} {i n : Nat} (hn : rows.length = n) (hi : i < n) (hz : zs.length = 1) : splice (splice (rows ++ sp) (0 + i * 1) (rows.drop (i + 1))) (0 + (n - 1) * 1) zs = rows.eraseIdx i ++ (zs ++ sp) := by
  have h1 : (rows.drop i).length = n - i := by rw [List.length_drop, hn]
  have h2 : (rows.drop (i + 1)).length = n - (i + 1) := by rw [List.length_drop, hn]
  have e1 : rows ++ sp = rows.take i ++ ((rows.drop i).take (n - (i + 1)) ++ ((rows.drop i).drop (n - (i + 1)) ++ sp)) := by
    rw [← List.append_assoc ((rows.drop i).take _), List.take_append_drop, ← List.append_assoc, List.take_append_drop]
  rw [e1, splice_mid (by rw [h2, List.length_take, h1]; omega) (by rw [List.length_take]; omega), ← List.append_assoc, splice_mid (by rw [hz, List.length_drop, h1]; omega) (by rw [List.length_append, List.length_take, h2]; omega), del_at]
instance extB : Ext Tryz.prog 92 (Extern.SlicesOverlaps.overlaps #[95, 95] #[4]) :=
  ⟨fun args w => run_callFunc_extern Tryz.func92 (by kernel_rfl) (by kernel_rfl) (by kernel_rfl) (by kernel_rfl) args w⟩
theorem insB_spec {F : List Assn} {vs : Value} {n i vb : Nat} {rows : List Value} {x : Value} {w : World} (hs : Sat (sl vs 44 1 n rows :: obj vb (.cells [x].toArray 44) :: F) w) (hi : i ≤ n) (hn : n ≤ 100000) (h1 : ∀ u ∈ rows, u.oneCell' = true) (hx1 : x.oneCell' = true) :
    Ret Tryz.prog 70 [vs, int ((i : Nat) : Int), .slice (some ⟨vb, 0, none⟩) 1 1] w fun v w' => Sat (sl v 44 1 (n + 1) (rows.insertIdx i x) :: F) w' := by
  obtain ⟨hrl, p, c, rfl, hc⟩ := hs.sl_len
  rw [Nat.mul_one] at hrl
  have hxx : ∀ u ∈ [x], u.oneCell' = true := fun u hu => by rw [List.mem_singleton.1 hu]; exact hx1
  refine Ret.enter [(true, .slice p n c), (true, int ((i : Nat) : Int)), (true, .slice (some ⟨vb, 0, none⟩) 1 1)] _ Tryz.func70 rfl Tryz.ntmps70 rfl ?_
  refine zz ?_
  refine MC.pure (f := true) (po_slice_lo (a := i) rfl rfl hi) rfl ?_
  refine zz ?_
  by_cases hin : i = n
  · subst hin
    refine zz ?_
    refine MC.does true (does_append hs rfl rfl (RdS.src (RdS.of_obj (n := 1) (cs := [x]) (e := 44) (F := F) rfl (Nat.le_refl _)) hxx) (by omega) (by omega)) rfl ?_
    intro v w hs
    refine zz ?_
    refine MC.ret rfl ?_
    rw [ins_at (by omega), List.take_of_length_le (by omega), List.drop_of_length_le (by omega)]
    exact hs.swap.tail
  · have hin : i < n := by omega
    obtain ⟨b, c', sp, hv, hnc, hl1, hl2, hs2⟩ : ∃ b c' sp, (.slice p n c : Value) = .slice (some ⟨b, 0, none⟩) n c' ∧ n ≤ c' ∧ rows.length = n * 1 ∧ rows.length + sp.length = c' * 1 ∧ Sat (blk b (rows ++ sp) 44 :: obj vb (.cells [x].toArray 44) :: F) w := by
      rcases hs.sl_cases with ⟨h, h0, _⟩ | ⟨b, c', sp, h, h2, h3, h4, h5⟩
      · omega
      · exact ⟨b, c', sp, h, h2, h3, h4, h5⟩
    cases hv
    rw [Nat.mul_one] at hl1 hl2
    have hne := obj_ne hs2
    refine zz ?_
    refine MC.pure (f := true) (po_cap_slice rfl) rfl ?_
    by_cases hroom : c < n + 1
    · refine zz ?_
      have hinc : i < c := by omega
      have hrd := (RdS.of_sl hs).takeL (b := i) (by omega)
      rw [Nat.mul_one] at hrd
      refine MC.pure (f := true) (po_slice_hi (b := i) rfl rfl (by omega)) rfl ?_
      refine zz ?_
      refine MC.does true (does_append0G (m := n + 1 - i) hs hrd rfl rfl (by decide) (by omega) (by omega) (by omega) (by omega) (by omega)) rfl ?_
      intro v2 w hs
      have hz : (rep (n + 1 - i) [.slice none 0 0]).length = n + 1 - i := by rw [rep_length]; simp
      have hni : i + (n + 1 - i) = n + 1 := by omega
      rw [hni] at hs
      rcases hs.sl_cases with ⟨_, h0, _⟩ | ⟨b2, c2, sp2, rfl, hc2, hl3, hl4, hs⟩
      · omega
      refine zz ?_
      refine MC.pure (f := true) (po_slice_lo (a := i) rfl rfl (by omega)) rfl ?_
      rw [cutAt_in (by omega)]
      refine zz ?_
      refine MC.does true (does_copy hs rfl rfl (RdS.src2 (RdS.of_obj (n := 1) (cs := [x]) (e := 44) (F := F) rfl (Nat.le_refl _)) hxx) ?_) rfl ?_
      · simp only [List.length_append, List.length_take, hz]; omega
      rintro _ w ⟨rfl, hs⟩
      refine zz ?_
      have hro := (RdS.of_sl hs.tail).dropL (a := i) (by omega)
      rw [Nat.mul_one, cutAt_in hinc] at hro
      refine MC.draw hs [0, 1, 2, 3, 4, 5, 6, 7, 8] (by rfl) ?_; intro w hs
      refine zd ?_
      refine MC.pure (f := true) (po_slice_lo (a := i + 1) rfl (by rfl) (by omega)) rfl ?_
      rw [cutAt_in (by omega)]
      refine zd ?_
      refine MC.pure (f := true) (po_slice_lo (a := i) rfl rfl (by omega)) rfl ?_
      rw [cutAt_in hinc]
      refine zd ?_
      refine MC.doesK true (does_copy hs rfl rfl (RdS.src2 hro fun u hu => h1 u (List.mem_of_mem_drop hu)) ?_) rfl rfl rfl ?_
      · rw [splice_length]; simp only [List.length_append, List.length_take, hz]; omega
      rintro _ w ⟨rfl, hs⟩
      refine zh ?_
      refine zd ?_
      refine zz ?_
      refine MC.ret rfl ?_
      have e1 : min 1 (n + 1 - i) * 1 = 1 := by omega
      have e2 : min (n - i) (n + 1 - (i + 1)) * 1 = (rows.drop i).length := by rw [List.length_drop, hl1]; omega
      rw [e1, e2, List.take_length, show List.take 1 [x] = [x] from rfl, splice_three (by omega) hin hz] at hs
      have hs := Sat.sl_mk (n := n + 1) (c := c2) (size := 1) hs (by omega) (by rw [List.length_insertIdx_of_le_length (by omega)]; omega) (by
        rw [List.length_insertIdx_of_le_length (by omega)]
        simp only [List.length_append, List.length_take, hz] at hl4
        omega)
      exact hs.pickF 3 [0] rfl rfl
    · refine zz ?_
      refine MC.pure (f := true) (po_slice_hi (b := n + 1) rfl rfl (by omega)) rfl ?_
      refine zz ?_
      refine MC.pure (f := true) (po_slice_lo (a := i + 1) rfl rfl (by omega)) rfl ?_
      rw [cutAt_in (by omega)]
      refine zz ?_
      refine MC.does true (does_ext rfl (Post := fun v w' => v = bool false ∧ w' = w) ⟨_, _, run_apart (b1 := vb) (b2 := b) (cs1 := [x]) (e1 := 44) (R := F) hs2 hne (by intro h; rw [(List.append_eq_nil_iff.1 h).1, List.length_nil] at hl1; omega), rfl, rfl⟩) rfl ?_
      rintro _ w ⟨rfl, rfl⟩
      refine zz ?_
      clear hs
      have hs := hs2
      refine MC.draw hs [0, 1, 2, 3, 4, 5, 6, 7, 8] (by rfl) ?_; intro w hs
      refine zd ?_
      refine MC.pure (f := true) (po_slice_lo (a := i + 1) rfl (by rfl) (by omega)) rfl ?_
      rw [cutAt_in (by omega)]
      refine zd ?_
      refine MC.pure (f := true) (po_slice_lo (a := i) rfl rfl (by omega)) rfl ?_
      rw [cutAt_in (by omega)]
      refine zd ?_
      have hdl : (rows.drop i).length = n - i := by rw [List.length_drop, hl1]
      refine MC.doesK true (does_copyM (news := rows.drop i) hs rfl rfl (fun j u hu => ?_) (by rw [hdl]; omega) (fun u hu => h1 u (List.mem_of_mem_drop hu)) ?_) rfl rfl rfl ?_
      · rw [hs.blk_cell, List.getElem?_append_left, show 0 + i * 1 + j = i + j by omega, ← List.getElem?_drop]
        · exact hu
        · have := (List.getElem?_eq_some_iff.1 hu).1; omega
      · rw [List.length_append]; omega
      rintro _ w ⟨rfl, hs⟩
      refine zh ?_
      refine zd ?_
      refine zz ?_
      refine MC.pure (f := true) (po_slice_lo (a := i) rfl rfl (by omega)) rfl ?_
      rw [cutAt_in (by omega)]
      refine zz ?_
      refine MC.does true (does_copy hs rfl rfl (RdS.src2 (RdS.of_obj (n := 1) (cs := [x]) (e := 44) (F := F) rfl (Nat.le_refl _)) hxx) ?_) rfl ?_
      · rw [splice_length, List.length_append]; omega
      rintro _ w ⟨rfl, hs⟩
      refine zz ?_
      refine MC.ret rfl ?_
      have e1 : min 1 (n + 1 - i) * 1 = 1 := by omega
      rw [e1, show List.take 1 [x] = [x] from rfl, splice_two (by omega) hin (by omega)] at hs
      have hs := Sat.sl_mk (n := n + 1) (c := c) (size := 1) hs (by omega) (by rw [List.length_insertIdx_of_le_length (by omega)]; omega) (by
        rw [List.length_insertIdx_of_le_length (by omega), List.length_drop]
        omega)
      exact hs.pickF 2 [0] rfl rfl
theorem delB_spec {F : List Assn} {vs : Value} {n i : Nat} {rows : List Value} {w : World} (hs : Sat (sl vs 44 1 n rows :: F) w) (hi : i < n) (hn : n ≤ 100000) (h1 : ∀ u ∈ rows, u.oneCell' = true) :
    Ret Tryz.prog 74 [vs, int ((i : Nat) : Int), int (((i + 1 : Nat)) : Int)] w fun v w' => Sat (sl v 44 1 (n - 1) (rows.eraseIdx i) :: F) w' := by
  obtain ⟨b, c, sp, rfl, hc, hl1, hl2, hs2⟩ : ∃ b c sp, vs = .slice (some ⟨b, 0, none⟩) n c ∧ n ≤ c ∧ rows.length = n * 1 ∧ rows.length + sp.length = c * 1 ∧ Sat (blk b (rows ++ sp) 44 :: F) w := by
    rcases hs.sl_cases with ⟨h, h0, _⟩ | ⟨b, c', sp, h, h2, h3, h4, h5⟩
    · omega
    · exact ⟨b, c', sp, h, h2, h3, h4, h5⟩
  rw [Nat.mul_one] at hl1 hl2
  clear hs
  have hs := hs2
  have hrd : RdS (blk b (rows ++ sp) 44 :: F) 1 (.slice (some ⟨b, 0, none⟩) n c) n rows := ⟨_, _, rfl, hc, by omega, fun _ => ⟨b, 0, rfl, fun w hw j u hu => (Rd.of_at (l := blk b (rows ++ sp) 44 :: F) (b := b)) w hw j u (by rw [List.getElem?_append_left (List.getElem?_eq_some_iff.1 hu).1]; exact hu)⟩⟩
  have hrd := hrd.dropL (a := i + 1) (by omega)
  rw [Nat.mul_one] at hrd
  refine Ret.enter [(true, .slice (some ⟨b, 0, none⟩) n c), (true, int ((i : Nat) : Int)), (true, int (((i + 1 : Nat)) : Int))] _ Tryz.func74 rfl Tryz.ntmps74 rfl ?_
  refine zz ?_
  refine MC.pure (f := true) (po_slice3 (a := i) (b := i + 1) (m := n) rfl rfl rfl rfl (by omega) (by omega) hc) rfl ?_
  refine zz ?_
  refine MC.draw hs [0, 1, 2, 3, 4, 5, 6, 7] (by rfl) ?_; intro w hs
  refine zd ?_
  refine MC.pure (f := true) (po_slice_hi (b := i) rfl rfl (by omega)) rfl ?_
  refine zd ?_
  refine MC.pure (f := true) (po_slice_lo (a := i + 1) rfl rfl (by omega)) rfl ?_
  refine MC.doesK true (does_appendIn hs rfl rfl (RdS.src2 hrd fun u hu => h1 u (List.mem_of_mem_drop hu)) (by omega) (by rw [List.length_append]; omega)) rfl rfl rfl ?_
  rintro _ w ⟨rfl, hs⟩
  refine zh ?_
  have en : i + (n - (i + 1)) = n - 1 := by omega
  rw [en]
  refine zd ?_
  refine zz ?_
  refine MC.pure (f := true) (po_slice (a := n - 1) (b := n) rfl rfl rfl (by omega) hc) rfl ?_
  rw [cutAt_in (by omega)]
  refine zz ?_
  refine MC.does true (does_clear (t := 95) hs rfl (by rw [splice_length, List.length_append]; omega) rfl) rfl ?_
  rintro _ w ⟨zs, hz, hs⟩
  refine zz ?_
  refine MC.ret rfl ?_
  rw [splice_del (by omega) hi (by omega)] at hs
  refine Sat.sl_mk (n := n - 1) (c := c) (size := 1) hs (by omega) (by rw [List.length_eraseIdx_of_lt (by omega)]; omega) (by
    rw [List.length_eraseIdx_of_lt (by omega), List.length_append]
    omega)
instance extI : Ext Tryz.prog 111 (Extern.SlicesOverlaps.overlaps #[56, 56] #[4]) :=
  ⟨fun args w => run_callFunc_extern Tryz.func111 (by kernel_rfl) (by kernel_rfl) (by kernel_rfl) (by kernel_rfl) args w⟩
theorem insI_spec {F : List Assn} {vs : Value} {n i vb : Nat} {rows : List Value} {x : Value} {w : World} (hs : Sat (sl vs 3 1 n rows :: obj vb (.cells [x].toArray 3) :: F) w) (hi : i ≤ n) (hn : n ≤ 100000) (h1 : ∀ u ∈ rows, u.oneCell' = true) (hx1 : x.oneCell' = true) :
    Ret Tryz.prog 96 [vs, int ((i : Nat) : Int), .slice (some ⟨vb, 0, none⟩) 1 1] w fun v w' => Sat (sl v 3 1 (n + 1) (rows.insertIdx i x) :: F) w' := by
  obtain ⟨hrl, p, c, rfl, hc⟩ := hs.sl_len
  rw [Nat.mul_one] at hrl
  have hxx : ∀ u ∈ [x], u.oneCell' = true := fun u hu => by rw [List.mem_singleton.1 hu]; exact hx1
  refine Ret.enter [(true, .slice p n c), (true, int ((i : Nat) : Int)), (true, .slice (some ⟨vb, 0, none⟩) 1 1)] _ Tryz.func96 rfl Tryz.ntmps96 rfl ?_
  refine zz ?_
  refine MC.pure (f := true) (po_slice_lo (a := i) rfl rfl hi) rfl ?_
  refine zz ?_
  by_cases hin : i = n
  · subst hin
    refine zz ?_
    refine MC.does true (does_append hs rfl rfl (RdS.src (RdS.of_obj (n := 1) (cs := [x]) (e := 3) (F := F) rfl (Nat.le_refl _)) hxx) (by omega) (by omega)) rfl ?_
    intro v w hs
    refine zz ?_
    refine MC.ret rfl ?_
    rw [ins_at (by omega), List.take_of_length_le (by omega), List.drop_of_length_le (by omega)]
    exact hs.swap.tail
  · have hin : i < n := by omega
    obtain ⟨b, c', sp, hv, hnc, hl1, hl2, hs2⟩ : ∃ b c' sp, (.slice p n c : Value) = .slice (some ⟨b, 0, none⟩) n c' ∧ n ≤ c' ∧ rows.length = n * 1 ∧ rows.length + sp.length = c' * 1 ∧ Sat (blk b (rows ++ sp) 3 :: obj vb (.cells [x].toArray 3) :: F) w := by
      rcases hs.sl_cases with ⟨h, h0, _⟩ | ⟨b, c', sp, h, h2, h3, h4, h5⟩
      · omega
      · exact ⟨b, c', sp, h, h2, h3, h4, h5⟩
    cases hv
    rw [Nat.mul_one] at hl1 hl2
    have hne := obj_ne hs2
    refine zz ?_
    refine MC.pure (f := true) (po_cap_slice rfl) rfl ?_
    by_cases hroom : c < n + 1
    · refine zz ?_
      have hinc : i < c := by omega
      have hrd := (RdS.of_sl hs).takeL (b := i) (by omega)
      rw [Nat.mul_one] at hrd
      refine MC.pure (f := true) (po_slice_hi (b := i) rfl rfl (by omega)) rfl ?_
      refine zz ?_
      refine MC.does true (does_append0G (m := n + 1 - i) hs hrd rfl rfl (by decide) (by omega) (by omega) (by omega) (by omega) (by omega)) rfl ?_
      intro v2 w hs
      have hz : (rep (n + 1 - i) [int 0]).length = n + 1 - i := by rw [rep_length]; simp
      have hni : i + (n + 1 - i) = n + 1 := by omega
      rw [hni] at hs
      rcases hs.sl_cases with ⟨_, h0, _⟩ | ⟨b2, c2, sp2, rfl, hc2, hl3, hl4, hs⟩
      · omega
      refine zz ?_
      refine MC.pure (f := true) (po_slice_lo (a := i) rfl rfl (by omega)) rfl ?_
      rw [cutAt_in (by omega)]
      refine zz ?_
      refine MC.does true (does_copy hs rfl rfl (RdS.src2 (RdS.of_obj (n := 1) (cs := [x]) (e := 3) (F := F) rfl (Nat.le_refl _)) hxx) ?_) rfl ?_
      · simp only [List.length_append, List.length_take, hz]; omega
      rintro _ w ⟨rfl, hs⟩
      refine zz ?_
      have hro := (RdS.of_sl hs.tail).dropL (a := i) (by omega)
      rw [Nat.mul_one, cutAt_in hinc] at hro
      refine MC.draw hs [0, 1, 2, 3, 4, 5, 6, 7, 8] (by rfl) ?_; intro w hs
      refine zd ?_
      refine MC.pure (f := true) (po_slice_lo (a := i + 1) rfl (by rfl) (by omega)) rfl ?_
      rw [cutAt_in (by omega)]
      refine zd ?_
      refine MC.pure (f := true) (po_slice_lo (a := i) rfl rfl (by omega)) rfl ?_
      rw [cutAt_in hinc]
      refine zd ?_
      refine MC.doesK true (does_copy hs rfl rfl (RdS.src2 hro fun u hu => h1 u (List.mem_of_mem_drop hu)) ?_) rfl rfl rfl ?_
      · rw [splice_length]; simp only [List.length_append, List.length_take, hz]; omega
      rintro _ w ⟨rfl, hs⟩
      refine zh ?_
      refine zd ?_
      refine zz ?_
      refine MC.ret rfl ?_
      have e1 : min 1 (n + 1 - i) * 1 = 1 := by omega
      have e2 : min (n - i) (n + 1 - (i + 1)) * 1 = (rows.drop i).length := by rw [List.length_drop, hl1]; omega
      rw [e1, e2, List.take_length, show List.take 1 [x] = [x] from rfl, splice_three (by omega) hin hz] at hs
      have hs := Sat.sl_mk (n := n + 1) (c := c2) (size := 1) hs (by omega) (by rw [List.length_insertIdx_of_le_length (by omega)]; omega) (by
        rw [List.length_insertIdx_of_le_length (by omega)]
        simp only [List.length_append, List.length_take, hz] at hl4
        omega)
      exact hs.pickF 3 [0] rfl rfl
    · refine zz ?_
      refine MC.pure (f := true) (po_slice_hi (b := n + 1) rfl rfl (by omega)) rfl ?_
      refine zz ?_
      refine MC.pure (f := true) (po_slice_lo (a := i + 1) rfl rfl (by omega)) rfl ?_
      rw [cutAt_in (by omega)]
      refine zz ?_
      refine MC.does true (does_ext rfl (Post := fun v w' => v = bool false ∧ w' = w) ⟨_, _, run_apart (b1 := vb) (b2 := b) (cs1 := [x]) (e1 := 3) (R := F) hs2 hne (by intro h; rw [(List.append_eq_nil_iff.1 h).1, List.length_nil] at hl1; omega), rfl, rfl⟩) rfl ?_
      rintro _ w ⟨rfl, rfl⟩
      refine zz ?_
      clear hs
      have hs := hs2
      refine MC.draw hs [0, 1, 2, 3, 4, 5, 6, 7, 8] (by rfl) ?_; intro w hs
      refine zd ?_
      refine MC.pure (f := true) (po_slice_lo (a := i + 1) rfl (by rfl) (by omega)) rfl ?_
      rw [cutAt_in (by omega)]
      refine zd ?_
      refine MC.pure (f := true) (po_slice_lo (a := i) rfl rfl (by omega)) rfl ?_
      rw [cutAt_in (by omega)]
      refine zd ?_
      have hdl : (rows.drop i).length = n - i := by rw [List.length_drop, hl1]
      refine MC.doesK true (does_copyM (news := rows.drop i) hs rfl rfl (fun j u hu => ?_) (by rw [hdl]; omega) (fun u hu => h1 u (List.mem_of_mem_drop hu)) ?_) rfl rfl rfl ?_
      · rw [hs.blk_cell, List.getElem?_append_left, show 0 + i * 1 + j = i + j by omega, ← List.getElem?_drop]
        · exact hu
        · have := (List.getElem?_eq_some_iff.1 hu).1; omega
      · rw [List.length_append]; omega
      rintro _ w ⟨rfl, hs⟩
      refine zh ?_
      refine zd ?_
      refine zz ?_
      refine MC.pure (f := true) (po_slice_lo (a := i) rfl rfl (by omega)) rfl ?_
      rw [cutAt_in (by omega)]
      refine zz ?_
      refine MC.does true (does_copy hs rfl rfl (RdS.src2 (RdS.of_obj (n := 1) (cs := [x]) (e := 3) (F := F) rfl (Nat.le_refl _)) hxx) ?_) rfl ?_
      · rw [splice_length, List.length_append]; omega
      rintro _ w ⟨rfl, hs⟩
      refine zz ?_
      refine MC.ret rfl ?_
      have e1 : min 1 (n + 1 - i) * 1 = 1 := by omega
      rw [e1, show List.take 1 [x] = [x] from rfl, splice_two (by omega) hin (by omega)] at hs
      have hs := Sat.sl_mk (n := n + 1) (c := c) (size := 1) hs (by omega) (by rw [List.length_insertIdx_of_le_length (by omega)]; omega) (by
        rw [List.length_insertIdx_of_le_length (by omega), List.length_drop]
        omega)
      exact hs.pickF 2 [0] rfl rfl
theorem delI_spec {F : List Assn} {vs : Value} {n i : Nat} {rows : List Value} {w : World} (hs : Sat (sl vs 3 1 n rows :: F) w) (hi : i < n) (hn : n ≤ 100000) (h1 : ∀ u ∈ rows, u.oneCell' = true) :
    Ret Tryz.prog 98 [vs, int ((i : Nat) : Int), int (((i + 1 : Nat)) : Int)] w fun v w' => Sat (sl v 3 1 (n - 1) (rows.eraseIdx i) :: F) w' := by
  obtain ⟨b, c, sp, rfl, hc, hl1, hl2, hs2⟩ : ∃ b c sp, vs = .slice (some ⟨b, 0, none⟩) n c ∧ n ≤ c ∧ rows.length = n * 1 ∧ rows.length + sp.length = c * 1 ∧ Sat (blk b (rows ++ sp) 3 :: F) w := by
    rcases hs.sl_cases with ⟨h, h0, _⟩ | ⟨b, c', sp, h, h2, h3, h4, h5⟩
    · omega
    · exact ⟨b, c', sp, h, h2, h3, h4, h5⟩
  rw [Nat.mul_one] at hl1 hl2
  clear hs
  have hs := hs2
  have hrd : RdS (blk b (rows ++ sp) 3 :: F) 1 (.slice (some ⟨b, 0, none⟩) n c) n rows := ⟨_, _, rfl, hc, by omega, fun _ => ⟨b, 0, rfl, fun w hw j u hu => (Rd.of_at (l := blk b (rows ++ sp) 3 :: F) (b := b)) w hw j u (by rw [List.getElem?_append_left (List.getElem?_eq_some_iff.1 hu).1]; exact hu)⟩⟩
  have hrd := hrd.dropL (a := i + 1) (by omega)
  rw [Nat.mul_one] at hrd
  refine Ret.enter [(true, .slice (some ⟨b, 0, none⟩) n c), (true, int ((i : Nat) : Int)), (true, int (((i + 1 : Nat)) : Int))] _ Tryz.func98 rfl Tryz.ntmps98 rfl ?_
  refine zz ?_
  refine MC.pure (f := true) (po_slice3 (a := i) (b := i + 1) (m := n) rfl rfl rfl rfl (by omega) (by omega) hc) rfl ?_
  refine zz ?_
  refine MC.draw hs [0, 1, 2, 3, 4, 5, 6, 7] (by rfl) ?_; intro w hs
  refine zd ?_
  refine MC.pure (f := true) (po_slice_hi (b := i) rfl rfl (by omega)) rfl ?_
  refine zd ?_
  refine MC.pure (f := true) (po_slice_lo (a := i + 1) rfl rfl (by omega)) rfl ?_
  refine MC.doesK true (does_appendIn hs rfl rfl (RdS.src2 hrd fun u hu => h1 u (List.mem_of_mem_drop hu)) (by omega) (by rw [List.length_append]; omega)) rfl rfl rfl ?_
  rintro _ w ⟨rfl, hs⟩
  refine zh ?_
  have en : i + (n - (i + 1)) = n - 1 := by omega
  rw [en]
  refine zd ?_
  refine zz ?_
  refine MC.pure (f := true) (po_slice (a := n - 1) (b := n) rfl rfl rfl (by omega) hc) rfl ?_
  rw [cutAt_in (by omega)]
  refine zz ?_
  refine MC.does true (does_clear (t := 56) hs rfl (by rw [splice_length, List.length_append]; omega) rfl) rfl ?_
  rintro _ w ⟨zs, hz, hs⟩
  refine zz ?_
  refine MC.ret rfl ?_
  rw [splice_del (by omega) hi (by omega)] at hs
  refine Sat.sl_mk (n := n - 1) (c := c) (size := 1) hs (by omega) (by rw [List.length_eraseIdx_of_lt (by omega)]; omega) (by
    rw [List.length_eraseIdx_of_lt (by omega), List.length_append]
    omega)
end Go.Proofs.YtjlofdodiaklaaaGreat

namespace Go.Proofs.YtjlofdodiaklaaaGreat
open Go Go.Sl Go.Tr
attribute [local irreducible] LooksAt

structure Rows (F : List Assn) (v : Value) (rs : List Value) (ks : List Bs) : Prop where
  sl : RdS F 1 v ks.length rs
  at_ : ∀ (i : Nat) (h : i < ks.length), ∃ u, rs[i]? = some u ∧ RdS F 1 u ks[i].length (bytesV ks[i])
theorem Rows.up {F l : List Assn} {v : Value} {rs : List Value} {ks : List Bs} (h : Rows F v rs ks) [Suf l F] : Rows l v rs ks :=
  ⟨h.sl.up, fun i hi => by obtain ⟨u, h1, h2⟩ := h.at_ i hi; exact ⟨u, h1, h2.up⟩⟩
theorem Rows.shape {F : List Assn} {v : Value} {rs : List Value} {ks : List Bs} (h : Rows F v rs ks) : ∃ p c, v = .slice p ks.length c ∧ ks.length ≤ c ∧ rs.length = ks.length := by
  obtain ⟨p, c, rfl, hc, hl⟩ := h.sl.shape
  exact ⟨p, c, rfl, hc, by omega⟩
theorem Rows.get {F : List Assn} {v : Value} {rs : List Value} {ks : List Bs} (h : Rows F v rs ks) {i : Nat} (hi : i < ks.length) : ∃ b o cc q c, v = .slice (some ⟨b, o, none⟩) ks.length cc ∧ rs[i]? = some (.slice q ks[i].length c) ∧ Rd F b o rs ∧ RdS F 1 (.slice q ks[i].length c) ks[i].length (bytesV ks[i]) := by
  obtain ⟨p, cc, rfl, hcc, hl⟩ := h.sl.shape
  obtain ⟨b, o, rfl, hrd⟩ := h.sl.at_ (by omega)
  obtain ⟨u, h1, h2⟩ := h.at_ i hi
  obtain ⟨q, c, rfl, _, _⟩ := h2.shape
  exact ⟨b, o, cc, q, c, rfl, h1, hrd, h2⟩
structure NdV where
  sk : Value
  sv : Value
  si : Value
  rk : List Value
  rv : List Value
def NdV.val (y : NdV) (n : Nd) : Value := .agg [bool n.leaf, y.sk, y.sv, y.si].toArray
structure NdR (F : List Assn) (y : NdV) (n : Nd) : Prop where
  keys : Rows F y.sk y.rk n.keys
  vals : Rows F y.sv y.rv n.vals
  kids : RdS F 1 y.si n.kids.length (bufV n.kids)
  few : n.keys.length ≤ 1000 ∧ n.vals.length ≤ 1000 ∧ n.kids.length ≤ 1000
  ks : ∀ k ∈ n.keys, k.length ≤ 1000
  vs : ∀ v ∈ n.vals, v.length ≤ 1000
theorem NdR.up {F l : List Assn} {y : NdV} {n : Nd} (h : NdR F y n) [Suf l F] : NdR l y n := ⟨h.keys.up, h.vals.up, h.kids.up, h.few, h.ks, h.vs⟩
theorem getD_at {l : List Bs} {i : Nat} (h : i < l.length) : l.getD i [] = l[i] := by
  rw [List.getD_eq_getElem?_getD, List.getElem?_eq_getElem h]; rfl
theorem getD_past {l : List Bs} {i : Nat} (h : l.length ≤ i) : l.getD i [] = [] := by
  rw [List.getD_eq_getElem?_getD, List.getElem?_eq_none h]; rfl
theorem ncell_spec {F : List Assn} {y : NdV} {n : Nd} {i : Nat} {w : World} (hs : Sat F w) (hr : NdR F y n) (hi : i < n.keys.length) :
    Ret Tryz.prog 108 [y.val n, int ((i : Nat) : Int)] w fun v w' => v = int ((n.cell i : Nat) : Int) ∧ Sat F w' := by
  obtain ⟨sk, sv, si, rk, rv⟩ := y
  obtain ⟨lf, keys, vals, kids⟩ := n
  obtain ⟨hk, hv, hc, ⟨f1, f2, f3⟩, hks, hvs⟩ := hr
  dsimp only [] at hk hv hc f1 f2 f3 hks hvs hi
  obtain ⟨kb, ko, kc, q, c, rfl, hkg, hkr, hk1⟩ := hk.get hi
  obtain ⟨pv, cv, rfl, hcv, _⟩ := hv.shape
  obtain ⟨pi, ci, rfl, hci, _⟩ := hc.shape
  have hkl := hks keys[i] (List.getElem_mem hi)
  unfold NdV.val Nd.cell
  dsimp only []
  rw [getD_at hi]
  have hj : rk[((i : Nat) : Int).toNat * 1]? = some (.slice q keys[i].length c) := by rw [Int.toNat_natCast, Nat.mul_one]; exact hkg
  refine Ret.enter [(true, .agg [bool lf, .slice (some ⟨kb, ko, none⟩) keys.length kc, .slice pv vals.length cv, .slice pi kids.length ci].toArray), (true, int ((i : Nat) : Int))] _ Tryz.func108 rfl Tryz.ntmps108 rfl ?_
  refine zz ?_
  refine MC.does true (does_box hs rfl rfl) rfl ?_; rintro _ w ⟨b2, rfl, hs⟩
  cases lf with
  | true =>
    by_cases hiv : i < vals.length
    · obtain ⟨vb, vo, vc, q2, c2, hv1, hvg, hvr, hv2⟩ := hv.get hiv
      cases hv1
      have hvl := hvs vals[i] (List.getElem_mem hiv)
      have hj2 : rv[((i : Nat) : Int).toNat * 1]? = some (.slice q2 vals[i].length c2) := by rw [Int.toNat_natCast, Nat.mul_one]; exact hvg
      rw [getD_at hiv]
      refine zz ?_
      refine MC.draw hs [0, 1, 2, 3, 4, 5, 6, 7, 8, 9, 10, 11, 12, 13, 14] (by rfl) ?_; intro w hs
      refine zd ?_
      refine MC.laD true (la_load1_rd hkr hs (j := ((i : Nat) : Int).toNat * 1) rfl hj) rfl ?_
      refine zd ?_
      refine MC.laD true (la_load1_rd hvr hs (j := ((i : Nat) : Int).toNat * 1) rfl hj2) rfl ?_
      refine zd ?_
      refine MC.ret rfl ?_
      exact ⟨by push_cast; rfl, hs.tail⟩
    · rw [getD_past (by omega)]
      refine zz ?_
      refine MC.la true (la_load1_rd hkr hs (j := ((i : Nat) : Int).toNat * 1) rfl hj) rfl ?_
      refine zz ?_
      refine MC.ret rfl ?_
      exact ⟨by push_cast; rfl, hs.tail⟩
  | false =>
    refine zz ?_
    refine MC.la true (la_load1_rd hkr hs (j := ((i : Nat) : Int).toNat * 1) rfl hj) rfl ?_
    refine zz ?_
    refine MC.ret rfl ?_
    exact ⟨by push_cast; rfl, hs.tail⟩
theorem cell_le {n : Nd} (hks : ∀ k ∈ n.keys, k.length ≤ 1000) (hvs : ∀ v ∈ n.vals, v.length ≤ 1000) (i : Nat) : n.cell i ≤ 2002 := by
  have h : ∀ (l : List Bs), (∀ k ∈ l, k.length ≤ 1000) → (l.getD i []).length ≤ 1000 := fun l hl => by
    rcases Nat.lt_or_ge i l.length with h | h
    · rw [getD_at h]; exact hl _ (List.getElem_mem h)
    · rw [getD_past h]; exact Nat.zero_le _
  have h1 := h n.keys hks
  have h2 := h n.vals hvs
  unfold Nd.cell
  split <;> omega
theorem sum_step (f : Nat → Nat) (i : Nat) : ((List.range (i + 1)).map f).sum = ((List.range i).map f).sum + f i := by
  rw [List.range_succ, List.map_append, List.sum_append]; simp
theorem sum_le {f : Nat → Nat} {c : Nat} (h : ∀ i, f i ≤ c) : ∀ i, ((List.range i).map f).sum ≤ c * i
  | 0 => by simp
  | i + 1 => by rw [sum_step, Nat.mul_succ]; have := sum_le h i; have := h i; omega
theorem nsize_spec {F : List Assn} {y : NdV} {n : Nd} {w : World} (hs : Sat F w) (hr : NdR F y n) :
    Ret Tryz.prog 94 [y.val n] w fun v w' => v = int ((n.size : Nat) : Int) ∧ Sat F w' := by
  have hr0 := hr
  have hcl := cell_le hr.ks hr.vs
  have hsl := sum_le hcl
  obtain ⟨sk, sv, si, rk, rv⟩ := y
  obtain ⟨hk, hv, hc, ⟨f1, f2, f3⟩, hks, hvs⟩ := hr
  dsimp only [] at hk hv hc f1 f2 f3 hks hvs
  obtain ⟨pk, ck, rfl, hck, _⟩ := hk.shape
  obtain ⟨pv, cv, rfl, hcv, _⟩ := hv.shape
  obtain ⟨pi, ci, rfl, hci, _⟩ := hc.shape
  refine Ret.enter [(true, .agg [bool n.leaf, .slice pk n.keys.length ck, .slice pv n.vals.length cv, .slice pi n.kids.length ci].toArray)] _ Tryz.func94 rfl Tryz.ntmps94 rfl ?_
  refine zz ?_
  refine MC.does true (does_box hs rfl rfl) rfl ?_; rintro _ w ⟨b2, rfl, hs⟩
  refine zz ?_
  refine MC.cutAtS 2 (σ := Unit) (fun _ => [(1, true, ptr b2), (3, true, int (((2 + (if n.leaf then 0 else 2 * n.kids.length)) : Nat) : Int))]) (fun _ w => Sat (blk b2 [bool n.leaf, .slice pk n.keys.length ck, .slice pv n.vals.length cv, .slice pi n.kids.length ci] 97 :: F) w) rfl ?_ ?_
  rotate_left
  · obtain ⟨lf, keys, vals, kids⟩ := n
    dsimp only [] at f1 f2 f3 hs ⊢
    cases lf with
    | true =>
      refine zz ?_
      exact MC.meetS () (by repeat (first | exact trivial | refine ⟨rfl, ?_⟩)) hs
    | false =>
      refine zz ?_
      exact MC.meetS () ⟨rfl, int_eq (by simp), trivial⟩ hs
  · rintro _ w hs
    (try dsimp only [List.drop_succ_cons, List.drop_zero, List.take_succ_cons, List.take_zero, List.cons_append, List.nil_append])
    have hbase : (2 + (if n.leaf then 0 else 2 * n.kids.length)) ≤ 2002 := by split <;> omega
    have hsz : n.size = (2 + (if n.leaf then 0 else 2 * n.kids.length)) + ((List.range n.keys.length).map n.cell).sum := rfl
    generalize (2 + (if n.leaf then 0 else 2 * n.kids.length)) = base at *
    refine zz ?_
    refine MC.loop (σ := Nat × Nat) (fun i => [(1, true, ptr b2), (3, true, int ((i.2 : Nat) : Int)), (16, true, int ((n.keys.length : Nat) : Int)), (17, true, int ((i.1 : Nat) : Int))])
      (fun i w => i.1 ≤ n.keys.length ∧ i.2 = base + ((List.range i.1).map n.cell).sum ∧ Sat (blk b2 [bool n.leaf, .slice pk n.keys.length ck, .slice pv n.vals.length cv, .slice pi n.kids.length ci] 97 :: F) w) (fun i => n.keys.length - i.1) (0, base) (by repeat (first | exact trivial | refine ⟨rfl, ?_⟩)) ⟨Nat.zero_le _, rfl, hs⟩ ?_
    clear hs
    rintro ⟨i, sm⟩ w ⟨hi, hsm, hs⟩
    dsimp only [] at hi hsm hs ⊢
    have hsi := hsl i
    rcases Nat.lt_or_ge i n.keys.length with hlt | hge
    · refine zz ?_
      refine MC.la true (la_loadV (vs := [bool n.leaf, .slice pk n.keys.length ck, .slice pv n.vals.length cv, .slice pi n.kids.length ci]) hs rfl rfl rfl rfl) rfl ?_
      refine zz ?_
      have hcall := ncell_spec hs hr0.up hlt
      refine MC.does true (does_call rfl (hcall)) rfl ?_
      rintro _ w ⟨rfl, hs⟩
      have hci := hcl i
      refine zz ?_
      exact MC.again (i + 1, sm + n.cell i) (by repeat (first | exact trivial | refine ⟨rfl, ?_⟩)) ⟨hlt, by dsimp only []; rw [sum_step]; omega, hs⟩ (by show n.keys.length - (i + 1) < n.keys.length - i; omega)
    · obtain rfl : i = n.keys.length := by omega
      refine zz ?_
      refine MC.ret rfl ?_
      exact ⟨by rw [hsz, ← hsm]; rfl, hs.tail⟩
end Go.Proofs.YtjlofdodiaklaaaGreat
