/-
  Lists: a member put in, a member taken out | Sorting in place: the insertion sort | Nodes: what one says of one; cell, Size | Sorting in place: merging with a stretch of one
-/
import Derived.Test.YtkccjgllanpebaaGreatDoorYaw
import Derived.Test.YtkccjgllanpebaaGreatDoorYap
set_option maxHeartbeats 1000000
set_option linter.unusedVariables false
set_option linter.unusedSimpArgs false
namespace Go.Proofs.YtkccjgllanpebaaGreatDoor
open Go Go.Sl Go.Tr
attribute [local irreducible] LooksAt
theorem cutAt_in {b o a c size : Nat} (h : a < c) : Sl.cutAt (some ⟨b, o, none⟩) a c size = some ⟨b, o + a * size, none⟩ := by
  unfold Sl.cutAt; rw [if_neg (by omega), Option.map_some, Addr.add_lit]
theorem ins_at {α : Type} {x : α} : ∀ {l : List α} {i : Nat}, i ≤ l.length → l.insertIdx i x = l.take i ++ x :: l.drop i
  | l, 0, _ => rfl
  | [], i + 1, h => by simp at h
  | a :: l, i + 1, h => congrArg (a :: ·) (ins_at (by simpa using h))
theorem of_ins {α : Type} {x y : α} {l : List α} {i : Nat} (hi : i ≤ l.length) (h : y ∈ l.insertIdx i x) : y = x ∨ y ∈ l := by
  rw [ins_at hi] at h
  rcases List.mem_append.1 h with h | h
  · exact .inr (List.mem_of_mem_take h)
  · rcases List.mem_cons.1 h with h | h
    · exact .inl h
    · exact .inr (List.mem_of_mem_drop h)
theorem splice_mid {A B C V : List Value} {o : Nat} (hV : V.length = B.length) (ho : o = A.length) : splice (A ++ (B ++ C)) o V = A ++ (V ++ C) := by
  subst ho
  rw [splice_eq V _ _ (by simp [hV]), List.take_left, ← List.drop_drop, List.drop_left, hV, List.drop_left, List.append_assoc]
theorem splice_two {rows sp : List Value} {x : Value} {i n : Nat} (hn : rows.length = n) (hi : i < n) (hsp : 0 < sp.length) : splice (splice (rows ++ sp) (0 + (i + 1) * 1) (rows.drop i)) (0 + i * 1) [x] = rows.insertIdx i x ++ sp.drop 1 := by
  have hi' : i < rows.length := by omega
  have e1 : rows ++ sp = rows.take (i + 1) ++ ((rows.drop (i + 1) ++ sp.take 1) ++ sp.drop 1) := by
    rw [List.append_assoc, List.take_append_drop, ← List.append_assoc, List.take_append_drop]
  have e2 : rows.take (i + 1) = rows.take i ++ [rows[i]] := List.take_succ_eq_append_getElem hi'
  rw [e1, splice_mid (by simp only [List.length_append, List.length_drop, List.length_take]; omega) (by rw [List.length_take]; omega), e2, List.append_assoc (rows.take i),
    splice_mid (V := [x]) (B := [rows[i]]) rfl (by rw [List.length_take]; omega), ins_at (by omega)]
  simp
theorem splice_three {rows zs sp : List Value} {x : Value} {i n : Nat} (hn : rows.length = n) (hi : i < n) (hz : zs.length = n + 1 - i) : splice (splice (rows.take i ++ zs ++ sp) (0 + i * 1) [x]) (0 + (i + 1) * 1) (rows.drop i) = rows.insertIdx i x ++ sp := by
  cases zs with
  | nil => simp at hz; omega
  | cons z0 zs =>
    have e1 : rows.take i ++ z0 :: zs ++ sp = rows.take i ++ ([z0] ++ (zs ++ sp)) := by simp
    have e2 : rows.take i ++ ([x] ++ (zs ++ sp)) = (rows.take i ++ [x]) ++ (zs ++ sp) := by simp
    rw [e1, splice_mid (V := [x]) (B := [z0]) rfl (by rw [List.length_take]; omega), e2, splice_mid (by simp at hz; rw [List.length_drop]; omega) (by rw [List.length_append, List.length_take]; simp; omega), ins_at (by omega)]
    simp
instance extB : Ext Tryz.prog 104 (Extern.SlicesOverlaps.overlaps #[66, 66] #[4]) :=
  ⟨fun args w => run_callFunc_extern Tryz.func104 (by kernel_rfl) (by kernel_rfl) (by kernel_rfl) (by kernel_rfl) args w⟩
theorem insB_spec {F : List Assn} {vs : Value} {n i vb : Nat} {rows : List Value} {x : Value} {w : World} (hs : Sat (sl vs 33 1 n rows :: obj vb (.cells [x].toArray 33) :: F) w) (hi : i ≤ n) (hn : n ≤ 100000) (h1 : ∀ u ∈ rows, u.oneCell' = true) (hx1 : x.oneCell' = true) :
    Ret Tryz.prog 60 [vs, int ((i : Nat) : Int), .slice (some ⟨vb, 0, none⟩) 1 1] w fun v w' => Sat (sl v 33 1 (n + 1) (rows.insertIdx i x) :: F) w' := by
  obtain ⟨hrl, p, c, rfl, hc⟩ := hs.sl_len
  rw [Nat.mul_one] at hrl
  have hxx : ∀ u ∈ [x], u.oneCell' = true := fun u hu => by rw [List.mem_singleton.1 hu]; exact hx1
  refine Ret.enter [(true, .slice p n c), (true, int ((i : Nat) : Int)), (true, .slice (some ⟨vb, 0, none⟩) 1 1)] _ Tryz.func60 rfl Tryz.ntmps60 rfl ?_
  refine zz ?_
  refine MC.pure (f := true) (po_slice_lo (a := i) rfl rfl hi) rfl ?_
  refine zz ?_
  by_cases hin : i = n
  · subst hin
    refine zz ?_
    refine MC.does true (does_append hs rfl rfl (RdS.src (RdS.of_obj (n := 1) (cs := [x]) (e := 33) (F := F) rfl (Nat.le_refl _)) hxx) (by omega) (by omega)) rfl ?_
    intro v w hs
    refine zz ?_
    refine MC.ret rfl ?_
    rw [ins_at (by omega), List.take_of_length_le (by omega), List.drop_of_length_le (by omega)]
    exact hs.swap.tail
  · have hin : i < n := by omega
    obtain ⟨b, c', sp, hv, hnc, hl1, hl2, hs2⟩ : ∃ b c' sp, (.slice p n c : Value) = .slice (some ⟨b, 0, none⟩) n c' ∧ n ≤ c' ∧ rows.length = n * 1 ∧ rows.length + sp.length = c' * 1 ∧ Sat (blk b (rows ++ sp) 33 :: obj vb (.cells [x].toArray 33) :: F) w := by
      rcases hs.sl_cases with ⟨h, h0, _⟩ | ⟨b, c', sp, h, h2, h3, h4, h5⟩
      · omega
      · exact ⟨b, c', sp, h, h2, h3, h4, h5⟩
    cases hv
    rw [Nat.mul_one] at hl1 hl2
    have hne := obj_ne hs2
    refine zz ?_
    refine MC.pure (f := true) (po_cap_slice rfl) rfl ?_
    by_cases hroom : c < n + 1
    · refine zz ?_
      have hinc : i < c := by omega
      have hrd := (RdS.of_sl hs).takeL (b := i) (by omega)
      rw [Nat.mul_one] at hrd
      refine MC.pure (f := true) (po_slice_hi (b := i) rfl rfl (by omega)) rfl ?_
      refine zz ?_
      refine MC.does true (does_append0G (m := n + 1 - i) hs hrd rfl rfl (by decide) (by omega) (by omega) (by omega) (by omega) (by omega)) rfl ?_
      intro v2 w hs
      have hz : (rep (n + 1 - i) [.slice none 0 0]).length = n + 1 - i := by rw [rep_length]; simp
      have hni : i + (n + 1 - i) = n + 1 := by omega
      rw [hni] at hs
      rcases hs.sl_cases with ⟨_, h0, _⟩ | ⟨b2, c2, sp2, rfl, hc2, hl3, hl4, hs⟩
      · omega
      refine zz ?_
      refine MC.pure (f := true) (po_slice_lo (a := i) rfl rfl (by omega)) rfl ?_
      rw [cutAt_in (by omega)]
      refine zz ?_
      refine MC.does true (does_copy hs rfl rfl (RdS.src2 (RdS.of_obj (n := 1) (cs := [x]) (e := 33) (F := F) rfl (Nat.le_refl _)) hxx) ?_) rfl ?_
      · simp only [List.length_append, List.length_take, hz]; omega
      rintro _ w ⟨rfl, hs⟩
      refine zz ?_
      have hro := (RdS.of_sl hs.tail).dropL (a := i) (by omega)
      rw [Nat.mul_one, cutAt_in hinc] at hro
      refine MC.draw hs [0, 1, 2, 3, 4, 5, 6, 7, 8] (by rfl) ?_; intro w hs
      refine zd ?_
      refine MC.pure (f := true) (po_slice_lo (a := i + 1) rfl (by rfl) (by omega)) rfl ?_
      rw [cutAt_in (by omega)]
      refine zd ?_
      refine MC.pure (f := true) (po_slice_lo (a := i) rfl rfl (by omega)) rfl ?_
      rw [cutAt_in hinc]
      refine zd ?_
      refine MC.doesK true (does_copy hs rfl rfl (RdS.src2 hro fun u hu => h1 u (List.mem_of_mem_drop hu)) ?_) rfl rfl rfl ?_
      · rw [splice_length]; simp only [List.length_append, List.length_take, hz]; omega
      rintro _ w ⟨rfl, hs⟩
      refine zh ?_
      refine zd ?_
      refine zz ?_
      refine MC.ret rfl ?_
      have e1 : min 1 (n + 1 - i) * 1 = 1 := by omega
      have e2 : min (n - i) (n + 1 - (i + 1)) * 1 = (rows.drop i).length := by rw [List.length_drop, hl1]; omega
      rw [e1, e2, List.take_length, show List.take 1 [x] = [x] from rfl, splice_three (by omega) hin hz] at hs
      have hs := Sat.sl_mk (n := n + 1) (c := c2) (size := 1) hs (by omega) (by rw [List.length_insertIdx_of_le_length (by omega)]; omega) (by
        rw [List.length_insertIdx_of_le_length (by omega)]
        simp only [List.length_append, List.length_take, hz] at hl4
        omega)
      exact hs.pickF 3 [0] rfl rfl
    · refine zz ?_
      refine MC.pure (f := true) (po_slice_hi (b := n + 1) rfl rfl (by omega)) rfl ?_
      refine zz ?_
      refine MC.pure (f := true) (po_slice_lo (a := i + 1) rfl rfl (by omega)) rfl ?_
      rw [cutAt_in (by omega)]
      refine zz ?_
      refine MC.does true (does_ext rfl (Post := fun v w' => v = bool false ∧ w' = w) ⟨_, _, run_apart (b1 := vb) (b2 := b) (cs1 := [x]) (e1 := 33) (R := F) hs2 hne (by intro h; rw [(List.append_eq_nil_iff.1 h).1, List.length_nil] at hl1; omega), rfl, rfl⟩) rfl ?_
      rintro _ w ⟨rfl, rfl⟩
      refine zz ?_
      clear hs
      have hs := hs2
      refine MC.draw hs [0, 1, 2, 3, 4, 5, 6, 7, 8] (by rfl) ?_; intro w hs
      refine zd ?_
      refine MC.pure (f := true) (po_slice_lo (a := i + 1) rfl (by rfl) (by omega)) rfl ?_
      rw [cutAt_in (by omega)]
      refine zd ?_
      refine MC.pure (f := true) (po_slice_lo (a := i) rfl rfl (by omega)) rfl ?_
      rw [cutAt_in (by omega)]
      refine zd ?_
      have hdl : (rows.drop i).length = n - i := by rw [List.length_drop, hl1]
      refine MC.doesK true (does_copyM (news := rows.drop i) hs rfl rfl (fun j u hu => ?_) (by rw [hdl]; omega) (fun u hu => h1 u (List.mem_of_mem_drop hu)) ?_) rfl rfl rfl ?_
      · rw [hs.blk_cell, List.getElem?_append_left, show 0 + i * 1 + j = i + j by omega, ← List.getElem?_drop]
        · exact hu
        · have := (List.getElem?_eq_some_iff.1 hu).1; omega
      · rw [List.length_append]; omega
      rintro _ w ⟨rfl, hs⟩
      refine zh ?_
      refine zd ?_
      refine zz ?_
      refine MC.pure (f := true) (po_slice_lo (a := i) rfl rfl (by omega)) rfl ?_
      rw [cutAt_in (by omega)]
      refine zz ?_
      refine MC.does true (does_copy hs rfl rfl (RdS.src2 (RdS.of_obj (n := 1) (cs := [x]) (e := 33) (F := F) rfl (Nat.le_refl _)) hxx) ?_) rfl ?_
      · rw [splice_length, List.length_append]; omega
      rintro _ w ⟨rfl, hs⟩
      refine zz ?_
      refine MC.ret rfl ?_
      have e1 : min 1 (n + 1 - i) * 1 = 1 := by omega
      rw [e1, show List.take 1 [x] = [x] from rfl, splice_two (by omega) hin (by omega)] at hs
      have hs := Sat.sl_mk (n := n + 1) (c := c) (size := 1) hs (by omega) (by rw [List.length_insertIdx_of_le_length (by omega)]; omega) (by
        rw [List.length_insertIdx_of_le_length (by omega), List.length_drop]
        omega)
      exact hs.pickF 2 [0] rfl rfl
instance extI : Ext Tryz.prog 134 (Extern.SlicesOverlaps.overlaps #[67, 67] #[4]) :=
  ⟨fun args w => run_callFunc_extern Tryz.func134 (by kernel_rfl) (by kernel_rfl) (by kernel_rfl) (by kernel_rfl) args w⟩
theorem insI_spec {F : List Assn} {vs : Value} {n i vb : Nat} {rows : List Value} {x : Value} {w : World} (hs : Sat (sl vs 3 1 n rows :: obj vb (.cells [x].toArray 3) :: F) w) (hi : i ≤ n) (hn : n ≤ 100000) (h1 : ∀ u ∈ rows, u.oneCell' = true) (hx1 : x.oneCell' = true) :
    Ret Tryz.prog 108 [vs, int ((i : Nat) : Int), .slice (some ⟨vb, 0, none⟩) 1 1] w fun v w' => Sat (sl v 3 1 (n + 1) (rows.insertIdx i x) :: F) w' := by
  obtain ⟨hrl, p, c, rfl, hc⟩ := hs.sl_len
  rw [Nat.mul_one] at hrl
  have hxx : ∀ u ∈ [x], u.oneCell' = true := fun u hu => by rw [List.mem_singleton.1 hu]; exact hx1
  refine Ret.enter [(true, .slice p n c), (true, int ((i : Nat) : Int)), (true, .slice (some ⟨vb, 0, none⟩) 1 1)] _ Tryz.func108 rfl Tryz.ntmps108 rfl ?_
  refine zz ?_
  refine MC.pure (f := true) (po_slice_lo (a := i) rfl rfl hi) rfl ?_
  refine zz ?_
  by_cases hin : i = n
  · subst hin
    refine zz ?_
    refine MC.does true (does_append hs rfl rfl (RdS.src (RdS.of_obj (n := 1) (cs := [x]) (e := 3) (F := F) rfl (Nat.le_refl _)) hxx) (by omega) (by omega)) rfl ?_
    intro v w hs
    refine zz ?_
    refine MC.ret rfl ?_
    rw [ins_at (by omega), List.take_of_length_le (by omega), List.drop_of_length_le (by omega)]
    exact hs.swap.tail
  · have hin : i < n := by omega
    obtain ⟨b, c', sp, hv, hnc, hl1, hl2, hs2⟩ : ∃ b c' sp, (.slice p n c : Value) = .slice (some ⟨b, 0, none⟩) n c' ∧ n ≤ c' ∧ rows.length = n * 1 ∧ rows.length + sp.length = c' * 1 ∧ Sat (blk b (rows ++ sp) 3 :: obj vb (.cells [x].toArray 3) :: F) w := by
      rcases hs.sl_cases with ⟨h, h0, _⟩ | ⟨b, c', sp, h, h2, h3, h4, h5⟩
      · omega
      · exact ⟨b, c', sp, h, h2, h3, h4, h5⟩
    cases hv
    rw [Nat.mul_one] at hl1 hl2
    have hne := obj_ne hs2
    refine zz ?_
    refine MC.pure (f := true) (po_cap_slice rfl) rfl ?_
    by_cases hroom : c < n + 1
    · refine zz ?_
      have hinc : i < c := by omega
      have hrd := (RdS.of_sl hs).takeL (b := i) (by omega)
      rw [Nat.mul_one] at hrd
      refine MC.pure (f := true) (po_slice_hi (b := i) rfl rfl (by omega)) rfl ?_
      refine zz ?_
      refine MC.does true (does_append0G (m := n + 1 - i) hs hrd rfl rfl (by decide) (by omega) (by omega) (by omega) (by omega) (by omega)) rfl ?_
      intro v2 w hs
      have hz : (rep (n + 1 - i) [int 0]).length = n + 1 - i := by rw [rep_length]; simp
      have hni : i + (n + 1 - i) = n + 1 := by omega
      rw [hni] at hs
      rcases hs.sl_cases with ⟨_, h0, _⟩ | ⟨b2, c2, sp2, rfl, hc2, hl3, hl4, hs⟩
      · omega
      refine zz ?_
      refine MC.pure (f := true) (po_slice_lo (a := i) rfl rfl (by omega)) rfl ?_
      rw [cutAt_in (by omega)]
      refine zz ?_
      refine MC.does true (does_copy hs rfl rfl (RdS.src2 (RdS.of_obj (n := 1) (cs := [x]) (e := 3) (F := F) rfl (Nat.le_refl _)) hxx) ?_) rfl ?_
      · simp only [List.length_append, List.length_take, hz]; omega
      rintro _ w ⟨rfl, hs⟩
      refine zz ?_
      have hro := (RdS.of_sl hs.tail).dropL (a := i) (by omega)
      rw [Nat.mul_one, cutAt_in hinc] at hro
      refine MC.draw hs [0, 1, 2, 3, 4, 5, 6, 7, 8] (by rfl) ?_; intro w hs
      refine zd ?_
      refine MC.pure (f := true) (po_slice_lo (a := i + 1) rfl (by rfl) (by omega)) rfl ?_
      rw [cutAt_in (by omega)]
      refine zd ?_
      refine MC.pure (f := true) (po_slice_lo (a := i) rfl rfl (by omega)) rfl ?_
      rw [cutAt_in hinc]
      refine zd ?_
      refine MC.doesK true (does_copy hs rfl rfl (RdS.src2 hro fun u hu => h1 u (List.mem_of_mem_drop hu)) ?_) rfl rfl rfl ?_
      · rw [splice_length]; simp only [List.length_append, List.length_take, hz]; omega
      rintro _ w ⟨rfl, hs⟩
      refine zh ?_
      refine zd ?_
      refine zz ?_
      refine MC.ret rfl ?_
      have e1 : min 1 (n + 1 - i) * 1 = 1 := by omega
      have e2 : min (n - i) (n + 1 - (i + 1)) * 1 = (rows.drop i).length := by rw [List.length_drop, hl1]; omega
      rw [e1, e2, List.take_length, show List.take 1 [x] = [x] from rfl, splice_three (by omega) hin hz] at hs
      have hs := Sat.sl_mk (n := n + 1) (c := c2) (size := 1) hs (by omega) (by rw [List.length_insertIdx_of_le_length (by omega)]; omega) (by
        rw [List.length_insertIdx_of_le_length (by omega)]
        simp only [List.length_append, List.length_take, hz] at hl4
        omega)
      exact hs.pickF 3 [0] rfl rfl
    · refine zz ?_
      refine MC.pure (f := true) (po_slice_hi (b := n + 1) rfl rfl (by omega)) rfl ?_
      refine zz ?_
      refine MC.pure (f := true) (po_slice_lo (a := i + 1) rfl rfl (by omega)) rfl ?_
      rw [cutAt_in (by omega)]
      refine zz ?_
      refine MC.does true (does_ext rfl (Post := fun v w' => v = bool false ∧ w' = w) ⟨_, _, run_apart (b1 := vb) (b2 := b) (cs1 := [x]) (e1 := 3) (R := F) hs2 hne (by intro h; rw [(List.append_eq_nil_iff.1 h).1, List.length_nil] at hl1; omega), rfl, rfl⟩) rfl ?_
      rintro _ w ⟨rfl, rfl⟩
      refine zz ?_
      clear hs
      have hs := hs2
      refine MC.draw hs [0, 1, 2, 3, 4, 5, 6, 7, 8] (by rfl) ?_; intro w hs
      refine zd ?_
      refine MC.pure (f := true) (po_slice_lo (a := i + 1) rfl (by rfl) (by omega)) rfl ?_
      rw [cutAt_in (by omega)]
      refine zd ?_
      refine MC.pure (f := true) (po_slice_lo (a := i) rfl rfl (by omega)) rfl ?_
      rw [cutAt_in (by omega)]
      refine zd ?_
      have hdl : (rows.drop i).length = n - i := by rw [List.length_drop, hl1]
      refine MC.doesK true (does_copyM (news := rows.drop i) hs rfl rfl (fun j u hu => ?_) (by rw [hdl]; omega) (fun u hu => h1 u (List.mem_of_mem_drop hu)) ?_) rfl rfl rfl ?_
      · rw [hs.blk_cell, List.getElem?_append_left, show 0 + i * 1 + j = i + j by omega, ← List.getElem?_drop]
        · exact hu
        · have := (List.getElem?_eq_some_iff.1 hu).1; omega
      · rw [List.length_append]; omega
      rintro _ w ⟨rfl, hs⟩
      refine zh ?_
      refine zd ?_
      refine zz ?_
      refine MC.pure (f := true) (po_slice_lo (a := i) rfl rfl (by omega)) rfl ?_
      rw [cutAt_in (by omega)]
      refine zz ?_
      refine MC.does true (does_copy hs rfl rfl (RdS.src2 (RdS.of_obj (n := 1) (cs := [x]) (e := 3) (F := F) rfl (Nat.le_refl _)) hxx) ?_) rfl ?_
      · rw [splice_length, List.length_append]; omega
      rintro _ w ⟨rfl, hs⟩
      refine zz ?_
      refine MC.ret rfl ?_
      have e1 : min 1 (n + 1 - i) * 1 = 1 := by omega
      rw [e1, show List.take 1 [x] = [x] from rfl, splice_two (by omega) hin (by omega)] at hs
      have hs := Sat.sl_mk (n := n + 1) (c := c) (size := 1) hs (by omega) (by rw [List.length_insertIdx_of_le_length (by omega)]; omega) (by
        rw [List.length_insertIdx_of_le_length (by omega), List.length_drop]
        omega)
      exact hs.pickF 2 [0] rfl rfl
end Go.Proofs.YtkccjgllanpebaaGreatDoor

namespace Go.Proofs.YtkccjgllanpebaaGreatDoor
open Go Go.Sl Go.Tr Go.Kv Go.Ms
attribute [local irreducible] LooksAt
def ltE (p q : E) : Bool := ltB (putV p.1) (putV q.1)
theorem ordE : Ord ltE := ⟨fun a b h => ltB_asymm h, fun a b c h1 h2 => by
  unfold ltE at h1 h2 ⊢
  rcases ltB_total (putV c.1) (putV a.1) with h | h | h
  · rcases ltB_total (putV b.1) (putV a.1) with h' | h' | h'
    · rw [h'] at h1; cases h1
    · rw [h', h] at h2; cases h2
    · rw [ltB_trans h h'] at h2; cases h2
  · rw [h]; exact ltB_irrefl _
  · exact ltB_asymm h⟩
def okE (D : List E) : Prop := ∀ p ∈ D, sizeV p.1 ≤ 1000 ∧ okV p.1
theorem okE.perm {D D' : List E} (h : okE D) (hm : ∀ x, x ∈ D' → x ∈ D) : okE D' := fun x hx => h x (hm x hx)
theorem lt_iff {p q : E} (hp : okV p.1) (hq : okV q.1) : ltE p q = true ↔ cmpV p.1 q.1 < 0 := by
  unfold ltE
  rcases Int.lt_trichotomy (cmpV p.1 q.1) 0 with h | h | h
  · exact ⟨fun _ => h, fun _ => cmp_lt hp hq h⟩
  · have := (put_dec _ _ hp hq).2 h
    rw [this, ltB_irrefl]
    exact ⟨fun h => (by cases h), fun h' => (by rw [this] at h; omega)⟩
  · rw [ltB_asymm (cmp_gt hp hq h)]
    exact ⟨fun h => (by cases h), fun h' => by omega⟩
theorem lt_neg {p q : E} (hp : okV p.1) (hq : okV q.1) : ltE p q = false ↔ 0 ≤ cmpV p.1 q.1 := by
  have := lt_iff hp hq
  cases h : ltE p q with
  | false => rw [h] at this; exact ⟨fun _ => (by rcases Int.lt_or_le (cmpV p.1 q.1) 0 with h' | h'; exact absurd (this.2 h') (by simp); exact h'), fun _ => rfl⟩
  | true => rw [h] at this; have := this.1 rfl; exact ⟨fun h => (by cases h), fun h => by omega⟩
theorem ecmp {F : List Assn} {w : World} {p q : E} (hs : Sat F w) (hT : Tabs F) (ha : VR F p.1 p.2) (hb : VR F q.1 q.2) (hp : sizeV p.1 ≤ 1000 ∧ okV p.1) (hq : sizeV q.1 ≤ 1000 ∧ okV q.1) :
    Ret Tryz.prog 34 [.agg p.2.toArray, .agg q.2.toArray] w fun u w' => u = int (cmpV p.1 q.1) ∧ Sat F w' := sort1_spec hs hT ha hb hp.1 hq.1 hp.2 hq.2
theorem mem5 {P X Y Q : List E} {x : E} (h : x ∈ P ++ (X ++ Q)) (hm : ∀ y, y ∈ X → y ∈ Y) : x ∈ P ++ (Y ++ Q) := by
  simp only [List.mem_append] at h ⊢
  rcases h with h | h | h
  · exact .inl h
  · exact .inr (.inl (hm x h))
  · exact .inr (.inr h)
set_option maxHeartbeats 4000000 in
theorem insort_spec {F : List Assn} {P X Q : List E} {bd n c : Nat} {sp : List Value} {a b : Int} {w : World} (hs : Sat (blk bd (cellsD (P ++ (X ++ Q)) ++ sp) 32 :: F) w) (hTb : Tabs F) (hD : DL F (P ++ (X ++ Q))) (hO : okE (P ++ (X ++ Q)))
    (ha : a = ((P.length : Nat) : Int)) (hb : b = ((P.length + X.length : Nat) : Int)) (hn : P.length + X.length + Q.length = n) (hN : n ≤ 100000) :
    Ret Tryz.prog 114 [.slice (some ⟨bd, 0, none⟩) n c, int a, int b, .func (.func 34) #[] #[]] w fun _ w' => ∃ Z : List E, Z.Perm X ∧ Srt ltE Z ∧ Sat (blk bd (cellsD (P ++ (Z ++ Q)) ++ sp) 32 :: F) w' := by
  subst ha hb
  refine Ret.enter [(true, .slice (some ⟨bd, 0, none⟩) n c), (true, int ((P.length : Nat) : Int)), (true, int ((P.length + X.length : Nat) : Int)), (true, .func (.func 34) #[] #[])] _ Tryz.func114 rfl Tryz.ntmps114 rfl ?_
  refine zz ?_
  have hX : ∃ Z R : List E, (Z ++ R).Perm X ∧ Z.length = min 1 X.length ∧ Srt ltE Z ∧ DL F (P ++ (Z ++ (R ++ Q))) ∧ okE (P ++ (Z ++ (R ++ Q))) ∧ Sat (blk bd (cellsD (P ++ (Z ++ (R ++ Q))) ++ sp) 32 :: F) w := by
    cases X with
    | nil => exact ⟨[], [], List.Perm.refl _, rfl, Srt.nil, hD, hO, hs⟩
    | cons x R => exact ⟨[x], R, List.Perm.refl _, by rw [List.length_cons, List.length_cons, List.length_nil]; omega, Srt.one x, hD, hO, hs⟩
  clear hs hD hO
  refine MC.loop (σ := Nat) (fun k => [(0, true, .slice (some ⟨bd, 0, none⟩) n c), (1, true, int ((P.length : Nat) : Int)), (2, true, int ((P.length + X.length : Nat) : Int)), (3, true, .func (.func 34) #[] #[]), (8, true, int (((P.length : Nat) : Int) + ((k + 1 : Nat) : Int)))])
    (fun k w => ∃ Z R : List E, (Z ++ R).Perm X ∧ Z.length = min (k + 1) X.length ∧ Srt ltE Z ∧ DL F (P ++ (Z ++ (R ++ Q))) ∧ okE (P ++ (Z ++ (R ++ Q))) ∧ Sat (blk bd (cellsD (P ++ (Z ++ (R ++ Q))) ++ sp) 32 :: F) w)
    (fun k => X.length - k) 0 zi hX ?_
  clear hX
  rintro k w ⟨Z, R, hp, hz, hsr, hD, hO, hs⟩
  dsimp only [] at hz ⊢
  have hpl := hp.length_eq
  rw [List.length_append] at hpl
  rcases Nat.lt_or_ge (k + 1) X.length with hlt | hge
  · obtain ⟨r, R, rfl⟩ : ∃ r R', R = r :: R' := by
      cases R with
      | nil => rw [List.length_nil] at hpl; omega
      | cons r R => exact ⟨r, R, rfl⟩
    rw [List.length_cons] at hpl
    have hz' : Z.length = k + 1 := by omega
    refine zz ?_
    refine MC.cutAtS (σ := List E × List E) 2 (fun s => [(0, true, .slice (some ⟨bd, 0, none⟩) n c), (1, true, int ((P.length : Nat) : Int)), (2, true, int ((P.length + X.length : Nat) : Int)), (3, true, .func (.func 34) #[] #[]), (8, true, int (((P.length : Nat) : Int) + ((k + 1 : Nat) : Int)))])
      (fun s w => s.1 ++ s.2 = Z ∧ Srt ltE (s.1 ++ r :: s.2) ∧ Sat (blk bd (cellsD (P ++ (s.1 ++ (r :: (s.2 ++ (R ++ Q))))) ++ sp) 32 :: F) w) rfl ?_ ?_
    rotate_left
    · (try dsimp only [List.drop_succ_cons, List.drop_zero, List.take_succ_cons, List.take_zero, List.cons_append, List.nil_append])
      refine MC.loop (σ := List E × List E) (fun s => [(0, true, .slice (some ⟨bd, 0, none⟩) n c), (1, true, int ((P.length : Nat) : Int)), (2, true, int ((P.length + X.length : Nat) : Int)), (3, true, .func (.func 34) #[] #[]), (8, true, int (((P.length : Nat) : Int) + ((k + 1 : Nat) : Int))), (9, true, int (((P.length : Nat) : Int) + ((s.1.length : Nat) : Int)))])
        (fun s w => s.1 ++ s.2 = Z ∧ (∀ b ∈ s.2, ltE b r = false) ∧ Sat (blk bd (cellsD (P ++ (s.1 ++ (r :: (s.2 ++ (R ++ Q))))) ++ sp) 32 :: F) w)
        (fun s => s.1.length) (Z, []) (by rw [hz']; exact zi) ⟨List.append_nil _, fun b h => (by cases h), hs⟩ ?_
      clear hs
      rintro ⟨Z1, Z2⟩ w ⟨e, h2, hs⟩
      dsimp only [] at e h2 hs ⊢
      subst e
      rcases List.eq_nil_or_concat Z1 with rfl | ⟨Z1', z, hz1⟩
      · refine zz ?_
        refine MC.draw hs [0, 1, 2, 3, 4, 5, 6, 7, 8, 9, 10, 11, 12, 13, 14, 15, 16] (by rfl) ?_; intro w hs
        refine zd ?_
        refine MC.part rfl rfl (fun h => absurd h (by rw [List.length_nil]; omega)) (fun _ => ?_)
        refine zd ?_
        exact MC.meetS ([], Z2) zi ⟨rfl, Srt.put ordE hsr (fun a ha => by cases ha) h2, hs⟩
      · rw [List.concat_eq_append] at hz1
        subst hz1
        have hzz : Z1'.length + 1 + Z2.length = k + 1 := by rw [List.length_append, List.length_append] at hz'; exact hz'
        have hpx : k + 1 + (R.length + 1) = X.length := by rw [hz'] at hpl; exact hpl
        have hl1 : (Z1' ++ [z]).length = Z1'.length + 1 := List.length_append
        rw [hl1]
        refine zz ?_
        refine MC.draw hs [0, 1, 2, 3, 4, 5, 6, 7, 8, 9, 10, 11, 12, 13, 14, 15, 16] (by rfl) ?_; intro w hs
        have e1 : P ++ (Z1' ++ [z] ++ r :: (Z2 ++ (R ++ Q))) = (P ++ Z1') ++ z :: ([] ++ r :: (Z2 ++ (R ++ Q))) := by simp
        have e2 : P ++ (Z1' ++ (r :: ((z :: Z2) ++ (R ++ Q)))) = (P ++ Z1') ++ r :: ([] ++ z :: (Z2 ++ (R ++ Q))) := by simp
        have hDi : DL F ((P ++ Z1') ++ z :: ([] ++ r :: (Z2 ++ (R ++ Q)))) := hD.mem fun x hx => by simp only [List.mem_append, List.mem_cons] at hx ⊢; grind
        have hOz := hO z (by simp)
        have hOr := hO r (by simp)
        have lA : (P ++ Z1').length = P.length + Z1'.length := List.length_append
        rw [e1] at hs
        have vz := hDi.at
        have vr := hDi.two
        refine zd ?_
        refine MC.laD true (la_loadV hs rfl (vs := r.2) (D_at2 hDi (by rw [lA, List.length_nil]; omega)) vr.len rfl) rfl ?_
        refine zd ?_
        refine MC.laD true (la_loadV hs rfl (vs := z.2) (D_at hDi (by rw [lA]; omega)) vz.len rfl) rfl ?_
        refine zd ?_
        refine MC.doesK true (does_callv (f := 34) (first := []) (capt := []) (vs := [.agg r.2.toArray, .agg z.2.toArray]) rfl rfl (ecmp hs hTb.up vr.up vz.up hOr hOz)) rfl rfl rfl ?_
        rintro _ w ⟨rfl, hs⟩; refine zh ?_
        rcases Int.lt_or_le (cmpV r.1 z.1) 0 with hc | hc
        · have hlz : ltE r z = true := (lt_iff hOr.2 hOz.2).2 hc
          refine zd ?_
          refine MC.draw hs [0, 1, 2, 3, 4, 5, 6, 7, 8, 9, 10, 11, 12, 13, 14, 15, 16, 17] (by rfl) ?_; intro w hs
          refine zd ?_
          refine MC.laD true (la_loadV hs rfl (vs := z.2) (D_at hDi (by rw [lA]; omega)) vz.len rfl) rfl ?_
          refine zd ?_
          refine MC.laD true (la_loadV hs rfl (vs := r.2) (D_at2 hDi (by rw [lA, List.length_nil]; omega)) vr.len rfl) rfl ?_
          refine zd ?_
          refine MC.doesD true (does_store (vs := z.2) hs rfl rfl vz.cells vz.len vz.ones (D_in2 hDi (by rw [lA, List.length_nil]; omega))) rfl rfl rfl rfl ?_; intro _ w hs; rw [D_set2 hDi vz (by rw [lA, List.length_nil]; omega)] at hs
          refine zd ?_
          refine MC.doesD true (does_store (vs := r.2) hs rfl rfl vr.cells vr.len vr.ones (D_in (hDi.set2 vz) (by rw [lA]; omega))) rfl rfl rfl rfl ?_; intro _ w hs; rw [D_set (hDi.set2 vz) vr (by rw [lA]; omega), ← e2] at hs
          refine zz ?_
          rw [show ((P.length : Nat) : Int) + ((Z1'.length + 1 : Nat) : Int) - 1 = ((P.length : Nat) : Int) + ((Z1'.length : Nat) : Int) by omega]
          exact MC.again (Z1', z :: Z2) zi ⟨by show Z1' ++ z :: Z2 = Z1' ++ [z] ++ Z2; rw [List.append_assoc]; rfl, fun b hb => by
            rcases List.mem_cons.1 hb with rfl | hb
            · exact ordE.asym _ _ hlz
            · exact h2 b hb, hs⟩ (by show Z1'.length < Z1'.length + 1; omega)
        · have hlz : ltE r z = false := (lt_neg hOr.2 hOz.2).2 hc
          refine zd ?_
          rw [← e1] at hs
          exact MC.meetS (Z1' ++ [z], Z2) zi ⟨rfl, Srt.put ordE hsr (Srt.ahead ordE hsr.left hlz) h2, hs⟩
    · clear hs
      rintro ⟨Z1, Z2⟩ w ⟨e, hsn, hs⟩
      dsimp only [List.drop] at e hsn hs ⊢
      subst e
      have hm : ∀ x, x ∈ P ++ (Z1 ++ r :: Z2 ++ (R ++ Q)) → x ∈ P ++ (Z1 ++ Z2 ++ (r :: R ++ Q)) := fun x hx => by simp only [List.mem_append, List.mem_cons] at hx ⊢; grind
      have hlr : (Z1 ++ r :: Z2).length = (Z1 ++ Z2).length + 1 := by rw [List.length_append, List.length_append, List.length_cons]; omega
      refine zz ?_
      rw [show ((P.length : Nat) : Int) + ((k + 1 : Nat) : Int) + 1 = ((P.length : Nat) : Int) + ((k + 1 + 1 : Nat) : Int) by omega]
      refine MC.again (k + 1) zi ⟨Z1 ++ r :: Z2, R, ?_, by omega, hsn, hD.mem hm, hO.perm hm, ?_⟩ (by show X.length - (k + 1) < X.length - k; omega)
      · refine List.Perm.trans ?_ hp
        rw [List.append_assoc, List.append_assoc, List.cons_append]
        exact List.Perm.append_left _ List.perm_middle.symm
      · have e : P ++ (Z1 ++ r :: Z2 ++ (R ++ Q)) = P ++ (Z1 ++ r :: (Z2 ++ (R ++ Q))) := by simp
        rw [e]; exact hs
  · obtain rfl : R = [] := List.eq_nil_of_length_eq_zero (by omega)
    refine zz ?_
    exact MC.end_ rfl ⟨Z, by rwa [List.append_nil] at hp, hsr, hs⟩
end Go.Proofs.YtkccjgllanpebaaGreatDoor

namespace Go.Proofs.YtkccjgllanpebaaGreatDoor
open Go Go.Sl Go.Tr
attribute [local irreducible] LooksAt
structure Rows (F : List Assn) (v : Value) (rs : List Value) (ks : List Bs) : Prop where
  sl : RdS F 1 v ks.length rs
  at_ : ∀ (i : Nat) (h : i < ks.length), ∃ u, rs[i]? = some u ∧ RdS F 1 u ks[i].length (bytesV ks[i])
theorem Rows.up {F l : List Assn} {v : Value} {rs : List Value} {ks : List Bs} (h : Rows F v rs ks) [Suf l F] : Rows l v rs ks :=
  ⟨h.sl.up, fun i hi => by obtain ⟨u, h1, h2⟩ := h.at_ i hi; exact ⟨u, h1, h2.up⟩⟩
theorem Rows.shape {F : List Assn} {v : Value} {rs : List Value} {ks : List Bs} (h : Rows F v rs ks) : ∃ p c, v = .slice p ks.length c ∧ ks.length ≤ c ∧ rs.length = ks.length := by
  obtain ⟨p, c, rfl, hc, hl⟩ := h.sl.shape
  exact ⟨p, c, rfl, hc, by omega⟩
theorem Rows.get {F : List Assn} {v : Value} {rs : List Value} {ks : List Bs} (h : Rows F v rs ks) {i : Nat} (hi : i < ks.length) : ∃ b o cc q c, v = .slice (some ⟨b, o, none⟩) ks.length cc ∧ rs[i]? = some (.slice q ks[i].length c) ∧ Rd F b o rs ∧ RdS F 1 (.slice q ks[i].length c) ks[i].length (bytesV ks[i]) := by
  obtain ⟨p, cc, rfl, hcc, hl⟩ := h.sl.shape
  obtain ⟨b, o, rfl, hrd⟩ := h.sl.at_ (by omega)
  obtain ⟨u, h1, h2⟩ := h.at_ i hi
  obtain ⟨q, c, rfl, _, _⟩ := h2.shape
  exact ⟨b, o, cc, q, c, rfl, h1, hrd, h2⟩
structure NdV where
  sk : Value
  sv : Value
  si : Value
  rk : List Value
  rv : List Value
def NdV.val (y : NdV) (n : Nd) : Value := .agg [bool n.leaf, y.sk, y.sv, y.si].toArray
structure NdR (F : List Assn) (y : NdV) (n : Nd) : Prop where
  keys : Rows F y.sk y.rk n.keys
  vals : Rows F y.sv y.rv n.vals
  kids : RdS F 1 y.si n.kids.length (bufV n.kids)
  few : n.keys.length ≤ 1000 ∧ n.vals.length ≤ 1000 ∧ n.kids.length ≤ 1000
  ks : ∀ k ∈ n.keys, k.length ≤ 1000
  vs : ∀ v ∈ n.vals, v.length ≤ 1000
theorem NdR.up {F l : List Assn} {y : NdV} {n : Nd} (h : NdR F y n) [Suf l F] : NdR l y n := ⟨h.keys.up, h.vals.up, h.kids.up, h.few, h.ks, h.vs⟩
theorem getD_at {l : List Bs} {i : Nat} (h : i < l.length) : l.getD i [] = l[i] := by
  rw [List.getD_eq_getElem?_getD, List.getElem?_eq_getElem h]; rfl
theorem getD_past {l : List Bs} {i : Nat} (h : l.length ≤ i) : l.getD i [] = [] := by
  rw [List.getD_eq_getElem?_getD, List.getElem?_eq_none h]; rfl
theorem ncell_spec {F : List Assn} {y : NdV} {n : Nd} {i : Nat} {w : World} (hs : Sat F w) (hr : NdR F y n) (hi : i < n.keys.length) :
    Ret Tryz.prog 131 [y.val n, int ((i : Nat) : Int)] w fun v w' => v = int ((n.cell i : Nat) : Int) ∧ Sat F w' := by
  obtain ⟨sk, sv, si, rk, rv⟩ := y
  obtain ⟨lf, keys, vals, kids⟩ := n
  obtain ⟨hk, hv, hc, ⟨f1, f2, f3⟩, hks, hvs⟩ := hr
  dsimp only [] at hk hv hc f1 f2 f3 hks hvs hi
  obtain ⟨kb, ko, kc, q, c, rfl, hkg, hkr, hk1⟩ := hk.get hi
  obtain ⟨pv, cv, rfl, hcv, _⟩ := hv.shape
  obtain ⟨pi, ci, rfl, hci, _⟩ := hc.shape
  have hkl := hks keys[i] (List.getElem_mem hi)
  unfold NdV.val Nd.cell
  dsimp only []
  rw [getD_at hi]
  have hj : rk[((i : Nat) : Int).toNat * 1]? = some (.slice q keys[i].length c) := by rw [Int.toNat_natCast, Nat.mul_one]; exact hkg
  refine Ret.enter [(true, .agg [bool lf, .slice (some ⟨kb, ko, none⟩) keys.length kc, .slice pv vals.length cv, .slice pi kids.length ci].toArray), (true, int ((i : Nat) : Int))] _ Tryz.func131 rfl Tryz.ntmps131 rfl ?_
  refine zz ?_
  refine MC.does true (does_box hs rfl rfl) rfl ?_; rintro _ w ⟨b2, rfl, hs⟩
  cases lf with
  | true =>
    by_cases hiv : i < vals.length
    · obtain ⟨vb, vo, vc, q2, c2, hv1, hvg, hvr, hv2⟩ := hv.get hiv
      cases hv1
      have hvl := hvs vals[i] (List.getElem_mem hiv)
      have hj2 : rv[((i : Nat) : Int).toNat * 1]? = some (.slice q2 vals[i].length c2) := by rw [Int.toNat_natCast, Nat.mul_one]; exact hvg
      rw [getD_at hiv]
      refine zz ?_
      refine MC.draw hs [0, 1, 2, 3, 4, 5, 6, 7, 8, 9, 10, 11, 12, 13, 14] (by rfl) ?_; intro w hs
      refine zd ?_
      refine MC.laD true (la_load1_rd hkr hs (j := ((i : Nat) : Int).toNat * 1) rfl hj) rfl ?_
      refine zd ?_
      refine MC.laD true (la_load1_rd hvr hs (j := ((i : Nat) : Int).toNat * 1) rfl hj2) rfl ?_
      refine zd ?_
      refine MC.ret rfl ?_
      exact ⟨by push_cast; rfl, hs.tail⟩
    · rw [getD_past (by omega)]
      refine zz ?_
      refine MC.la true (la_load1_rd hkr hs (j := ((i : Nat) : Int).toNat * 1) rfl hj) rfl ?_
      refine zz ?_
      refine MC.ret rfl ?_
      exact ⟨by push_cast; rfl, hs.tail⟩
  | false =>
    refine zz ?_
    refine MC.la true (la_load1_rd hkr hs (j := ((i : Nat) : Int).toNat * 1) rfl hj) rfl ?_
    refine zz ?_
    refine MC.ret rfl ?_
    exact ⟨by push_cast; rfl, hs.tail⟩
theorem cell_le {n : Nd} (hks : ∀ k ∈ n.keys, k.length ≤ 1000) (hvs : ∀ v ∈ n.vals, v.length ≤ 1000) (i : Nat) : n.cell i ≤ 2002 := by
  have h : ∀ (l : List Bs), (∀ k ∈ l, k.length ≤ 1000) → (l.getD i []).length ≤ 1000 := fun l hl => by
    rcases Nat.lt_or_ge i l.length with h | h
    · rw [getD_at h]; exact hl _ (List.getElem_mem h)
    · rw [getD_past h]; exact Nat.zero_le _
  have h1 := h n.keys hks
  have h2 := h n.vals hvs
  unfold Nd.cell
  split <;> omega
theorem sum_step (f : Nat → Nat) (i : Nat) : ((List.range (i + 1)).map f).sum = ((List.range i).map f).sum + f i := by
  rw [List.range_succ, List.map_append, List.sum_append]; simp
theorem sum_le {f : Nat → Nat} {c : Nat} (h : ∀ i, f i ≤ c) : ∀ i, ((List.range i).map f).sum ≤ c * i
  | 0 => by simp
  | i + 1 => by rw [sum_step, Nat.mul_succ]; have := sum_le h i; have := h i; omega
theorem nsize_spec {F : List Assn} {y : NdV} {n : Nd} {w : World} (hs : Sat F w) (hr : NdR F y n) :
    Ret Tryz.prog 106 [y.val n] w fun v w' => v = int ((n.size : Nat) : Int) ∧ Sat F w' := by
  have hr0 := hr
  have hcl := cell_le hr.ks hr.vs
  have hsl := sum_le hcl
  obtain ⟨sk, sv, si, rk, rv⟩ := y
  obtain ⟨hk, hv, hc, ⟨f1, f2, f3⟩, hks, hvs⟩ := hr
  dsimp only [] at hk hv hc f1 f2 f3 hks hvs
  obtain ⟨pk, ck, rfl, hck, _⟩ := hk.shape
  obtain ⟨pv, cv, rfl, hcv, _⟩ := hv.shape
  obtain ⟨pi, ci, rfl, hci, _⟩ := hc.shape
  refine Ret.enter [(true, .agg [bool n.leaf, .slice pk n.keys.length ck, .slice pv n.vals.length cv, .slice pi n.kids.length ci].toArray)] _ Tryz.func106 rfl Tryz.ntmps106 rfl ?_
  refine zz ?_
  refine MC.does true (does_box hs rfl rfl) rfl ?_; rintro _ w ⟨b2, rfl, hs⟩
  refine zz ?_
  refine MC.cutAtS 2 (σ := Unit) (fun _ => [(1, true, ptr b2), (3, true, int (((2 + (if n.leaf then 0 else 2 * n.kids.length)) : Nat) : Int))]) (fun _ w => Sat (blk b2 [bool n.leaf, .slice pk n.keys.length ck, .slice pv n.vals.length cv, .slice pi n.kids.length ci] 69 :: F) w) rfl ?_ ?_
  rotate_left
  · obtain ⟨lf, keys, vals, kids⟩ := n
    dsimp only [] at f1 f2 f3 hs ⊢
    cases lf with
    | true =>
      refine zz ?_
      exact MC.meetS () zi hs
    | false =>
      refine zz ?_
      exact MC.meetS () ⟨rfl, int_eq (by simp), trivial⟩ hs
  · rintro _ w hs
    (try dsimp only [List.drop_succ_cons, List.drop_zero, List.take_succ_cons, List.take_zero, List.cons_append, List.nil_append])
    have hbase : (2 + (if n.leaf then 0 else 2 * n.kids.length)) ≤ 2002 := by split <;> omega
    have hsz : n.size = (2 + (if n.leaf then 0 else 2 * n.kids.length)) + ((List.range n.keys.length).map n.cell).sum := rfl
    generalize (2 + (if n.leaf then 0 else 2 * n.kids.length)) = base at *
    refine zz ?_
    refine MC.loop (σ := Nat × Nat) (fun i => [(1, true, ptr b2), (3, true, int ((i.2 : Nat) : Int)), (16, true, int ((n.keys.length : Nat) : Int)), (17, true, int ((i.1 : Nat) : Int))])
      (fun i w => i.1 ≤ n.keys.length ∧ i.2 = base + ((List.range i.1).map n.cell).sum ∧ Sat (blk b2 [bool n.leaf, .slice pk n.keys.length ck, .slice pv n.vals.length cv, .slice pi n.kids.length ci] 69 :: F) w) (fun i => n.keys.length - i.1) (0, base) zi ⟨Nat.zero_le _, rfl, hs⟩ ?_
    clear hs
    rintro ⟨i, sm⟩ w ⟨hi, hsm, hs⟩
    dsimp only [] at hi hsm hs ⊢
    have hsi := hsl i
    rcases Nat.lt_or_ge i n.keys.length with hlt | hge
    · refine zz ?_
      refine MC.la true (la_loadV (vs := [bool n.leaf, .slice pk n.keys.length ck, .slice pv n.vals.length cv, .slice pi n.kids.length ci]) hs rfl rfl rfl rfl) rfl ?_
      refine zz ?_
      have hcall := ncell_spec hs hr0.up hlt
      refine zc rfl (hcall) ?_
      rintro _ w ⟨rfl, hs⟩
      have hci := hcl i
      refine zz ?_
      exact MC.again (i + 1, sm + n.cell i) zi ⟨hlt, by dsimp only []; rw [sum_step]; omega, hs⟩ (by show n.keys.length - (i + 1) < n.keys.length - i; omega)
    · obtain rfl : i = n.keys.length := by omega
      refine zz ?_
      refine MC.ret rfl ?_
      exact ⟨by rw [hsz, ← hsm]; rfl, hs.tail⟩
end Go.Proofs.YtkccjgllanpebaaGreatDoor

namespace Go.Proofs.YtkccjgllanpebaaGreatDoor
open Go Go.Sl Go.Tr Go.Kv Go.Ms
attribute [local irreducible] LooksAt
theorem Srt.lt_take {Y : List E} (h : Srt ltE Y) {x : E} {i : Nat} (hi : i < Y.length) (hx : ltE Y[i] x = true) : ∀ y ∈ Y.take (i + 1), ltE y x = true := by
  intro y hy
  rw [take_snoc hi] at hy
  rcases List.mem_append.1 hy with hy | hy
  · cases hc : ltE y x with
    | true => rfl
    | false =>
      have e : Y = Y.take i ++ Y[i] :: Y.drop (i + 1) := by rw [← List.drop_eq_getElem_cons hi, List.take_append_drop]
      rw [e] at h
      have := (Srt.append.1 h).2.2 y hy _ List.mem_cons_self
      have := ordE.trans x y _ hc this
      rw [hx] at this; cases this
  · rw [List.mem_singleton.1 hy]; exact hx
theorem Srt.ge_drop {Y : List E} (h : Srt ltE Y) {x : E} {i : Nat} (hi : i < Y.length) (hx : ltE Y[i] x = false) : ∀ y ∈ Y.drop i, ltE y x = false := by
  intro y hy
  rw [List.drop_eq_getElem_cons hi] at hy
  have e : Y = Y.take i ++ Y[i] :: Y.drop (i + 1) := by rw [← List.drop_eq_getElem_cons hi, List.take_append_drop]
  rw [e] at h
  rcases List.mem_cons.1 hy with rfl | hy
  · exact hx
  · have := (List.pairwise_cons.1 (Srt.append.1 h).2.1).1 y hy
    exact ordE.trans _ _ _ hx this
theorem mid_eq {A B C : Nat} (h : (A + B) / 2 = C) (hb : A + B ≤ 1000000) : IntKind.u64.wrap (((A : Nat) : Int) + ((B : Nat) : Int)) / 2 = ((C : Nat) : Int) := by
  rw [wrap_u64]; omega
set_option maxHeartbeats 4000000 in
theorem symm1_spec {F : List Assn} {P Y Q : List E} {x : E} {bd n c : Nat} {sp : List Value} {a m b : Int} {w : World} (hs : Sat (blk bd (cellsD (P ++ (x :: (Y ++ Q))) ++ sp) 32 :: F) w) (hTb : Tabs F) (hD : DL F (P ++ (x :: (Y ++ Q)))) (hO : okE (P ++ (x :: (Y ++ Q))))
    (hY : 0 < Y.length) (hsr : Srt ltE Y) (ha : a = ((P.length : Nat) : Int)) (hm : m = ((P.length + 1 : Nat) : Int)) (hb : b = ((P.length + 1 + Y.length : Nat) : Int)) (hn : P.length + 1 + Y.length + Q.length = n) (hN : n ≤ 100000) :
    Ret Tryz.prog 115 [.slice (some ⟨bd, 0, none⟩) n c, int a, int m, int b, .func (.func 34) #[] #[]] w fun _ w' => ∃ Z : List E, Z.Perm (x :: Y) ∧ Srt ltE Z ∧ Sat (blk bd (cellsD (P ++ (Z ++ Q)) ++ sp) 32 :: F) w' := by
  subst ha hm hb
  refine Ret.enter [(true, .slice (some ⟨bd, 0, none⟩) n c), (true, int ((P.length : Nat) : Int)), (true, int ((P.length + 1 : Nat) : Int)), (true, int ((P.length + 1 + Y.length : Nat) : Int)), (true, .func (.func 34) #[] #[])] _ Tryz.func115 rfl Tryz.ntmps115 rfl ?_
  refine zz ?_
  refine MC.cutAtS (σ := Nat) 2 (fun i => [(0, true, .slice (some ⟨bd, 0, none⟩) n c), (1, true, int ((P.length : Nat) : Int)), (10, true, int ((P.length + 1 + i : Nat) : Int))])
    (fun i w => i ≤ Y.length ∧ (∀ y ∈ Y.take i, ltE y x = true) ∧ (∀ y ∈ Y.drop i, ltE y x = false) ∧ Sat (blk bd (cellsD (P ++ (x :: (Y ++ Q))) ++ sp) 32 :: F) w) rfl ?_ ?_
  rotate_left
  · (try dsimp only [List.drop_succ_cons, List.drop_zero, List.take_succ_cons, List.take_zero, List.cons_append, List.nil_append])
    refine MC.loop (σ := Nat × Nat) (fun s => [(0, true, .slice (some ⟨bd, 0, none⟩) n c), (1, true, int ((P.length : Nat) : Int)), (4, true, .func (.func 34) #[] #[]), (10, true, int ((P.length + 1 + s.1 : Nat) : Int)), (11, true, int ((P.length + 1 + s.2 : Nat) : Int))])
      (fun s w => s.1 ≤ s.2 ∧ s.2 ≤ Y.length ∧ (∀ y ∈ Y.take s.1, ltE y x = true) ∧ (∀ y ∈ Y.drop s.2, ltE y x = false) ∧ Sat (blk bd (cellsD (P ++ (x :: (Y ++ Q))) ++ sp) 32 :: F) w)
      (fun s => s.2 - s.1) (0, Y.length) zi ⟨Nat.zero_le _, Nat.le_refl _, fun y h => (by cases h), fun y h => (by rw [List.drop_length] at h; cases h), hs⟩ ?_
    clear hs
    rintro ⟨i, j⟩ w ⟨hij, hj, h1, h2, hs⟩
    dsimp only [] at hij hj h1 h2 hs ⊢
    rcases Nat.lt_or_ge i j with hlt | hge
    · obtain ⟨h, hh, hih, hhj⟩ : ∃ h, ((P.length + 1 + i) + (P.length + 1 + j)) / 2 = P.length + 1 + h ∧ i ≤ h ∧ h < j := ⟨(i + j) / 2, by omega, by omega, by omega⟩
      have hhy : h < Y.length := by omega
      obtain ⟨y, hy⟩ : ∃ y, Y[h] = y := ⟨_, rfl⟩
      have e1 : P ++ (x :: (Y ++ Q)) = P ++ x :: (Y.take h ++ y :: (Y.drop (h + 1) ++ Q)) := by
        rw [← hy, ← List.cons_append (a := Y[h]), ← List.drop_eq_getElem_cons hhy, ← List.append_assoc, List.take_append_drop]
      have hDi := hD
      rw [e1] at hDi
      have lA : (Y.take h).length = h := by rw [List.length_take]; omega
      have hOx := hO x (by simp)
      have hOy := hO y (by rw [← hy]; simp)
      have vx := hDi.at
      have vy := hDi.two
      refine zz ?_
      rw [mid_eq hh (by omega)]
      rw [e1] at hs
      refine MC.draw hs [0, 1, 2, 3, 4, 5, 6, 7, 8, 9, 10] (by rfl) ?_; intro w hs
      refine zd ?_
      refine MC.laD true (la_loadV hs rfl (vs := y.2) (D_at2 hDi (by rw [lA]; omega)) vy.len rfl) rfl ?_
      refine zd ?_
      refine MC.laD true (la_loadV hs rfl (vs := x.2) (D_at hDi (by omega)) vx.len rfl) rfl ?_
      refine zd ?_
      refine MC.doesK true (does_callv (f := 34) (first := []) (capt := []) (vs := [.agg y.2.toArray, .agg x.2.toArray]) rfl rfl (ecmp hs hTb.up vy.up vx.up hOy hOx)) rfl rfl rfl ?_
      rintro _ w ⟨rfl, hs⟩; refine zh ?_
      rw [← e1] at hs
      rcases Int.lt_or_le (cmpV y.1 x.1) 0 with hc | hc
      · have hlz : ltE y x = true := (lt_iff hOy.2 hOx.2).2 hc
        refine zd ?_
        rw [show ((P.length + 1 + h : Nat) : Int) + 1 = ((P.length + 1 + (h + 1) : Nat) : Int) by omega]
        exact MC.again (h + 1, j) zi ⟨hhj, hj, Srt.lt_take hsr hhy (by rw [hy]; exact hlz), h2, hs⟩ (by show j - (h + 1) < j - i; omega)
      · have hlz : ltE y x = false := (lt_neg hOy.2 hOx.2).2 hc
        refine zd ?_
        exact MC.again (i, h) zi ⟨hih, by show h ≤ Y.length; omega, h1, Srt.ge_drop hsr hhy (by rw [hy]; exact hlz), hs⟩ (by show h - i < j - i; omega)
    · obtain rfl : i = j := by omega
      refine zz ?_
      exact MC.meetS i zi ⟨hj, h1, h2, hs⟩
  · clear hs
    rintro i w ⟨hi, h1, h2, hs⟩
    dsimp only [List.drop] at hs ⊢
    refine zz ?_
    refine MC.loop (σ := Nat) (fun k => [(0, true, .slice (some ⟨bd, 0, none⟩) n c), (1, true, int ((P.length : Nat) : Int)), (10, true, int ((P.length + 1 + i : Nat) : Int)), (13, true, int ((P.length + k : Nat) : Int))])
      (fun k w => k ≤ i ∧ Sat (blk bd (cellsD (P ++ (Y.take k ++ x :: (Y.drop k ++ Q))) ++ sp) 32 :: F) w)
      (fun k => i - k) 0 zi ⟨Nat.zero_le _, hs⟩ ?_
    clear hs
    rintro k w ⟨hk, hs⟩
    dsimp only [] at hk hs ⊢
    rcases Nat.lt_or_ge k i with hlt | hge
    · have hky : k < Y.length := by omega
      obtain ⟨y, hy⟩ : ∃ y, Y[k] = y := ⟨_, rfl⟩
      have e1 : P ++ (Y.take k ++ x :: (Y.drop k ++ Q)) = (P ++ Y.take k) ++ x :: ([] ++ y :: (Y.drop (k + 1) ++ Q)) := by
        rw [List.drop_eq_getElem_cons hky, hy]; simp
      have e2 : P ++ (Y.take (k + 1) ++ x :: (Y.drop (k + 1) ++ Q)) = (P ++ Y.take k) ++ y :: ([] ++ x :: (Y.drop (k + 1) ++ Q)) := by
        rw [take_snoc hky, hy]; simp
      have lA : (P ++ Y.take k).length = P.length + k := by rw [List.length_append, List.length_take]; omega
      have hDi : DL F ((P ++ Y.take k) ++ x :: ([] ++ y :: (Y.drop (k + 1) ++ Q))) := by
        rw [← e1]
        refine hD.mem fun z hz => ?_
        rw [← List.take_append_drop k Y]
        simp only [List.mem_append, List.mem_cons] at hz ⊢; grind
      have vx := hDi.at
      have vy := hDi.two
      rw [e1] at hs
      refine zz ?_
      refine MC.draw hs [0, 1, 2, 3, 4, 5, 6, 7, 8, 9, 10, 11, 12, 13, 14, 15, 16, 17] (by rfl) ?_; intro w hs
      refine zd ?_
      refine MC.laD true (la_loadV hs rfl (vs := y.2) (D_at2 hDi (by rw [lA, List.length_nil]; omega)) vy.len rfl) rfl ?_
      refine zd ?_
      refine MC.laD true (la_loadV hs rfl (vs := x.2) (D_at hDi (by rw [lA]; omega)) vx.len rfl) rfl ?_
      refine zd ?_
      refine MC.doesD true (does_store (vs := y.2) hs rfl rfl vy.cells vy.len vy.ones (D_in hDi (by rw [lA]; omega))) rfl rfl rfl rfl ?_; intro _ w hs; rw [D_set hDi vy (by rw [lA]; omega)] at hs
      refine zd ?_
      refine MC.doesD true (does_store (vs := x.2) hs rfl rfl vx.cells vx.len vx.ones (D_in2 (hDi.set vy) (by rw [lA, List.length_nil]; omega))) rfl rfl rfl rfl ?_; intro _ w hs; rw [D_set2 (hDi.set vy) vx (by rw [lA, List.length_nil]; omega), ← e2] at hs
      refine zz ?_
      rw [show ((P.length + k : Nat) : Int) + 1 = ((P.length + (k + 1) : Nat) : Int) by omega]
      exact MC.again (k + 1) zi ⟨hlt, hs⟩ (by show i - (k + 1) < i - k; omega)
    · obtain rfl : k = i := by omega
      refine zz ?_
      refine MC.ret rfl ⟨Y.take k ++ x :: Y.drop k, ?_, ?_, ?_⟩
      · have := (List.perm_middle (a := x) (l₁ := Y.take k) (l₂ := Y.drop k))
        rwa [List.take_append_drop] at this
      · exact Srt.put ordE (by rw [List.take_append_drop]; exact hsr) (fun a ha => ordE.asym _ _ (h1 a ha)) h2
      · rw [List.append_assoc]; exact hs
end Go.Proofs.YtkccjgllanpebaaGreatDoor
