/-
  Lists of pairs: Put; Short; what is saved | What is read of pages, from round to round | Has: a tree's answers are a list's | A tree found behind a loss | The document's lists are the tree's | A pager's device, taken out and put back | A round: what stands on the device, what is found behind a loss | A round's end: flush, save, done
-/
import Derived.Test.YtjlofdodiaklaaaGreatYbg
import Derived.Test.YtjlofdodiaklaaaGreatYat
import Derived.Test.YtjlofdodiaklaaaGreatYan
import Derived.Test.YtjlofdodiaklaaaGreatYas
import Derived.Test.YtjlofdodiaklaaaGreatYal
set_option maxHeartbeats 1000000
set_option linter.unusedVariables false
set_option linter.unusedSimpArgs false
namespace Go.Proofs.YtjlofdodiaklaaaGreat
open Go Go.Sl Go.Tr
attribute [local irreducible] LooksAt

def insP (l : List (Bs × Bs)) (key value : Bs) : List (Bs × Bs) := (delP l key).take (beforeK (delP l key) key) ++ ([(key, value)] ++ (delP l key).drop (beforeK (delP l key) key))
theorem delP_length {l : List (Bs × Bs)} {key : Bs} : (delP l key).length ≤ l.length := by
  unfold delP
  split
  · rw [List.length_append, List.length_take, List.length_drop]; omega
  · exact Nat.le_refl _
section
variable {F : List Assn} {w : World}
theorem lPut_spec {l : List (Bs × Bs)} {vl : Value} {key value : Bs} (hs : Sat F w) (hl : RdS F 2 vl l.length (pairsV l)) (hn : l.length ≤ 100000) :
    Ret Tryz.prog 12 [vl, str key, str value] w fun v w' => Sat (sl v 106 2 (insP l key value).length (pairsV (insP l key value)) :: F) w' := by
  have hd := lDel_spec (key := key) hs hl hn
  obtain ⟨p, c, rfl, hcap, _⟩ := hl.shape
  have hdl := delP_length (l := l) (key := key)
  unfold insP
  generalize hm : delP l key = m at hd hdl ⊢
  refine Ret.enter [(true, .slice p l.length c), (true, str key), (true, str value)] _ Tryz.func12 rfl Tryz.ntmps12 rfl ?_
  refine zz ?_
  refine MC.cutAtS 1 (σ := Value) (fun x => [(0, true, x), (1, true, str key), (2, true, str value)]) (fun x w => ∃ A : List Assn, (A = [] ∨ ∃ a, A = [a]) ∧ RdS (A ++ F) 2 x m.length (pairsV m) ∧ Sat (A ++ F) w) rfl ?_ ?_
  rotate_left
  · refine MC.does true (does_call rfl (hd)) rfl ?_
    rintro _ w ⟨v1, rfl, hs⟩
    by_cases hh : hasP l key = true
    · rw [if_pos hh] at hs
      refine zz ?_
      exact MC.meetS v1 (by repeat (first | exact trivial | refine ⟨rfl, ?_⟩)) ⟨[_], .inr ⟨_, rfl⟩, RdS.of_sl hs, hs⟩
    · rw [if_neg hh] at hs
      obtain ⟨rfl, e, hs⟩ := hs
      rw [← hm] at e
      refine zz ?_
      exact MC.meetS (.slice p l.length c) (by repeat (first | exact trivial | refine ⟨rfl, ?_⟩)) ⟨[], .inl rfl, by rw [show m = l by rw [← hm]; exact e]; exact hl, hs⟩
  · rintro x w ⟨A, hA, hl, hs⟩
    dsimp only [List.drop] at hs ⊢
    obtain ⟨p, c, rfl, hcap, _⟩ := hl.shape
    have hf := lfind_spec (key := key) hs hl (by omega)
    have hble : beforeK m key ≤ m.length := by unfold beforeK; exact (List.takeWhile_sublist _).length_le
    refine zz ?_
    refine MC.does true (does_call rfl (hf)) rfl ?_
    rintro _ w ⟨rfl, hs⟩
    obtain ⟨i, hi⟩ : ∃ i, i = beforeK m key := ⟨_, rfl⟩
    rw [← hi] at hble ⊢
    have hfin : ∀ {v : Value} {w : World}, Sat (sl v 106 2 (0 + i + 1 + (m.length - i)) ([] ++ (pairsV m).take (i * 2) ++ [str key, str value] ++ (pairsV m).drop (i * 2)) :: (A ++ F)) w → Sat (sl v 106 2 (m.take i ++ ([(key, value)] ++ m.drop i)).length (pairsV (m.take i ++ ([(key, value)] ++ m.drop i))) :: F) w := fun {v w} hs => by
      rw [pairsV_append, pairsV_append, ← pairsV_take, ← pairsV_drop]
      have el : (m.take i ++ ([(key, value)] ++ m.drop i)).length = 0 + i + 1 + (m.length - i) := by rw [List.length_append, List.length_append, List.length_take, List.length_drop, List.length_singleton]; omega
      rw [el]
      have e2 : pairsV [(key, value)] = [str key, str value] := rfl
      rw [e2, ← List.append_assoc]
      rcases hA with rfl | ⟨a, rfl⟩
      · exact hs
      · exact hs.pickF 2 [0] rfl rfl
    refine zz ?_
    refine MC.draw hs [1, 2, 3, 5, 6, 7, 10, 11, 12, 0, 4, 8, 9, 13, 14] (by rfl) ?_; intro w hs
    refine zd ?_
    refine MC.pure (f := true) (po_slice_hi (b := i) rfl rfl (by omega)) rfl ?_
    refine zd ?_
    refine MC.pure (f := true) (po_build (ls := [(0, [str key]), (1, [str value])]) (out := [str key, str value]) rfl rfl ⟨⟨_, rfl, by simp⟩, ⟨_, rfl, by simp⟩, trivial⟩ rfl) rfl ?_
    refine zd ?_
    refine MC.pure (f := true) (po_slice_lo (a := i) rfl rfl (by omega)) rfl ?_
    refine zd ?_
    refine MC.fork 8 [0, 4, 9, 13, 14] rfl rfl (does_buildSlice0 hs) (does_buildSlice (vs := [(0, .agg #[str key, str value])]) (ls := [(0, [str key, str value])]) (out := [str key, str value]) hs rfl rfl ⟨⟨_, rfl, by simp [rep]⟩, trivial⟩ rfl rfl) ?_ ?_
    · rintro _ w ⟨b0, rfl, hs⟩; refine zh ?_
      have hs := Sat.sl_mk (size := 2) (n := 0) (c := 0) (xs := []) (spare := []) hs (Nat.le_refl _) rfl rfl
      refine zd ?_
      refine MC.fork 8 [4, 9, 13, 14] rfl rfl (does_append hs rfl rfl (RdS.src (hl.takeL (b := i) (by omega)) (fun u hu => pairsV_one m u (List.mem_of_mem_take hu))) (by omega) (by omega)) (does_buildSlice (vs := [(0, .agg #[str key, str value])]) (ls := [(0, [str key, str value])]) (out := [str key, str value]) hs rfl rfl ⟨⟨_, rfl, by simp [rep]⟩, trivial⟩ rfl rfl) ?_ ?_
      · intro v4 w hs; refine zh ?_
        refine zd ?_
        refine MC.doesK true (does_buildSlice (vs := [(0, .agg #[str key, str value])]) (ls := [(0, [str key, str value])]) (out := [str key, str value]) hs rfl rfl ⟨⟨_, rfl, by simp [rep]⟩, trivial⟩ rfl rfl) rfl rfl rfl ?_; rintro _ w ⟨b8, rfl, hs⟩; refine zh ?_
        refine zd ?_
        have hs := hs.pickF 2 [0, 1] rfl rfl
        have hs := Sat.sl_mk (size := 2) (n := 1) (c := 1) (xs := [str key, str value]) (spare := []) hs (Nat.le_refl _) rfl rfl
        have hr8 := RdS.of_sl hs
        refine MC.doesK true (does_append hs rfl rfl (RdS.src hr8 (fun u hu => by simp only [List.mem_cons, List.not_mem_nil, or_false] at hu; rcases hu with rfl | rfl <;> rfl)) (by omega) (by omega)) rfl rfl rfl ?_
        intro v9 w hs; refine zh ?_
        refine zd ?_
        refine MC.doesK true (does_append hs rfl rfl (RdS.src (hl.dropL (a := i) (by omega)) (fun u hu => pairsV_one m u (List.mem_of_mem_drop hu))) (by omega) (by omega)) rfl rfl rfl ?_
        intro v13 w hs; refine zh ?_
        refine zz ?_
        refine MC.ret rfl ?_
        exact hfin hs.tail
      · rintro _ w ⟨b8, rfl, hs⟩; refine zh ?_
        refine zd ?_
        refine MC.doesK true (does_append hs rfl rfl (RdS.src (hl.takeL (b := i) (by omega)) (fun u hu => pairsV_one m u (List.mem_of_mem_take hu))) (by omega) (by omega)) rfl rfl rfl ?_; intro v4 w hs; refine zh ?_
        refine zd ?_
        have hs := hs.pickF 2 [0, 1] rfl rfl
        have hs := Sat.sl_mk (size := 2) (n := 1) (c := 1) (xs := [str key, str value]) (spare := []) hs (Nat.le_refl _) rfl rfl
        have hr8 := RdS.of_sl hs
        refine MC.doesK true (does_append hs rfl rfl (RdS.src hr8 (fun u hu => by simp only [List.mem_cons, List.not_mem_nil, or_false] at hu; rcases hu with rfl | rfl <;> rfl)) (by omega) (by omega)) rfl rfl rfl ?_
        intro v9 w hs; refine zh ?_
        refine zd ?_
        refine MC.doesK true (does_append hs rfl rfl (RdS.src (hl.dropL (a := i) (by omega)) (fun u hu => pairsV_one m u (List.mem_of_mem_drop hu))) (by omega) (by omega)) rfl rfl rfl ?_
        intro v13 w hs; refine zh ?_
        refine zz ?_
        refine MC.ret rfl ?_
        exact hfin hs.tail
    · rintro _ w ⟨b8, rfl, hs⟩; refine zh ?_
      refine zd ?_
      refine MC.doesK true (does_buildSlice0 hs) rfl rfl rfl ?_; rintro _ w ⟨b0, rfl, hs⟩; refine zh ?_
      have hs := Sat.sl_mk (size := 2) (n := 0) (c := 0) (xs := []) (spare := []) hs (Nat.le_refl _) rfl rfl
      refine zd ?_
      refine MC.doesK true (does_append hs rfl rfl (RdS.src (hl.takeL (b := i) (by omega)) (fun u hu => pairsV_one m u (List.mem_of_mem_take hu))) (by omega) (by omega)) rfl rfl rfl ?_; intro v4 w hs; refine zh ?_
      refine zd ?_
      have hs := hs.pickF 2 [1, 0] rfl rfl
      have hs := Sat.sl_mk (size := 2) (n := 1) (c := 1) (xs := [str key, str value]) (spare := []) hs (Nat.le_refl _) rfl rfl
      have hr8 := RdS.of_sl hs
      refine MC.doesK true (does_append hs rfl rfl (RdS.src hr8 (fun u hu => by simp only [List.mem_cons, List.not_mem_nil, or_false] at hu; rcases hu with rfl | rfl <;> rfl)) (by omega) (by omega)) rfl rfl rfl ?_
      intro v9 w hs; refine zh ?_
      refine zd ?_
      refine MC.doesK true (does_append hs rfl rfl (RdS.src (hl.dropL (a := i) (by omega)) (fun u hu => pairsV_one m u (List.mem_of_mem_drop hu))) (by omega) (by omega)) rfl rfl rfl ?_
      intro v13 w hs; refine zh ?_
      refine zz ?_
      refine MC.ret rfl ?_
      exact hfin hs.tail
theorem short_spec {b : Bs} {vb : Value} {n : Nat} (hs : Sat F w) (hb : RdS F 1 vb b.length (bytesV b)) : Ret Tryz.prog 10 [vb, int ((n : Nat) : Int)] w fun v w' => RdS F 1 v (b.take n).length (bytesV (b.take n)) ∧ w' = w := by
  have hb0 := hb
  obtain ⟨p, c, rfl, hcap, _⟩ := hb.shape
  refine Ret.enter [(true, .slice p b.length c), (true, int ((n : Nat) : Int))] _ Tryz.func10 rfl Tryz.ntmps10 rfl ?_
  by_cases h : n < b.length
  · refine zz ?_
    refine MC.pure (f := true) (po_slice_hi (b := n) rfl rfl (by omega)) rfl ?_
    refine zz ?_
    refine MC.ret rfl ?_
    refine ⟨?_, rfl⟩
    have h1 := hb0.takeL (b := n) (by omega)
    rw [Nat.mul_one] at h1
    rw [List.length_take, Nat.min_eq_left (by omega)]
    rw [show bytesV (b.take n) = (bytesV b).take n by simp [bytesV, List.map_take]]
    exact h1
  · refine zz ?_
    refine MC.ret rfl ?_
    rw [List.take_of_length_le (by omega)]
    exact ⟨hb0, rfl⟩
theorem saved_spec {z : Pw} {s : St} {mk : Option (Nat × St)} {tp : Nat} {a b c : Int} (hs : Sat (pgr z s mk :: tb z tp a b c :: F) w) (ha : -10000000 ≤ a ∧ a ≤ 10000000) : Ret Tryz.prog 17 [ptr tp] w fun v w' => Sat (sl v 3 1 3 [int (a + 1), int b, int c] :: pgr z s mk :: tb z tp a b c :: F) w' := by
  have h1 := tRoot_spec hs
  have h2 := tHeight_spec hs
  have h3 := tCount_spec hs
  refine Ret.enter [(true, ptr tp)] _ Tryz.func17 rfl Tryz.ntmps17 rfl ?_
  refine zz ?_
  refine MC.does true (does_call rfl (h1)) rfl ?_
  rintro _ _ ⟨rfl, rfl⟩
  refine zz ?_
  refine MC.does true (does_call rfl (h2)) rfl ?_
  rintro _ _ ⟨rfl, rfl⟩
  refine zz ?_
  refine MC.does true (does_call rfl (h3)) rfl ?_
  rintro _ _ ⟨rfl, rfl⟩
  refine zz ?_
  refine MC.does true (does_buildL hs rfl rfl rfl (all1 rfl) rfl) rfl ?_; rintro _ w ⟨bb, rfl, hs⟩
  refine zz ?_
  refine MC.ret rfl ?_
  exact Sat.sl_mk (size := 1) (n := 3) (c := 3) (xs := [int (a + 1), int b, int c]) (spare := []) hs (Nat.le_refl _) rfl rfl
end
end Go.Proofs.YtjlofdodiaklaaaGreat

namespace Go.Pa
open Go.Tr
open Go.Proofs.YtjlofdodiaklaaaGreat (dn liveK)

section
variable {E : En} {KK : List Nat} {s s' : St} {F : List PA} {sec : Nat → Go.Tr.Bs} {d : Bool} {b : Nat → Go.Tr.Bs}
theorem kind_map {f : Nat → Nat} {k : Nat} : (⟨s.kinds.map f, b⟩ : St).kind ⟨sec, d, E.frm⟩ k = (s.kind E k).map f := by
  unfold St.kind
  by_cases h : k < E.frm
  · rw [if_pos h, if_pos h]; rfl
  · rw [if_neg h, if_neg h, List.getElem?_map]
theorem rd_done (h1 : ∀ k, s.kind E k = some 1 → sec k = s.by_ k) (h2 : ∀ k, s.kind E k = some 2 → sec k = E.sec k) : Ph.le (rd E s) (rd ⟨sec, d, E.frm⟩ ⟨s.kinds.map dn, b⟩) := fun k o h => by
  unfold rd at h ⊢
  rw [kind_map (E := E)]
  by_cases e1 : s.kind E k = some 1
  · rw [if_pos e1] at h
    rw [e1, if_neg (by decide), if_pos (by decide)]
    show some (sec k) = _
    rw [h1 k e1]; exact h
  · rw [if_neg e1] at h
    by_cases e2 : s.kind E k = some 2
    · rw [if_pos e2] at h
      rw [e2, if_neg (by decide), if_pos (by decide)]
      show some (sec k) = _
      rw [h2 k e2]; exact h
    · rw [if_neg e2] at h; cases h
theorem ps_done (a : PS E KK F s) (h1 : ∀ k, s.kind E k = some 1 → sec k = s.by_ k) (h2 : ∀ k, s.kind E k = some 2 → sec k = E.sec k) : PS ⟨sec, d, E.frm⟩ (s.kinds.map dn) F ⟨s.kinds.map dn, b⟩ :=
  ⟨a.1.mono (rd_done h1 h2), by
    show E.frm + (s.kinds.map dn).length ≤ 8192
    rw [List.length_map]; exact a.2.1, Kst.refl _⟩
theorem kst_old {k : Nat} (h : Kst KK s.kinds) (hk : ¬ k < E.frm) (h2 : KK[k - E.frm]? = some 2) : s.kind E k = some 2 ∨ s.kind E k = some 3 := by
  obtain ⟨c', h3, h4, _⟩ := h.2 _ _ h2
  unfold St.kind
  rw [if_neg hk, h3]
  rcases h4 rfl with h | h <;> rw [h]
  · exact .inl rfl
  · exact .inr rfl
end
end Go.Pa

namespace Go.Proofs.YtjlofdodiaklaaaGreat
open Go Go.Sl Go.Tr
attribute [local irreducible] LooksAt

theorem pairsV_two {l : List (Bs × Bs)} {i : Nat} (h : i < l.length) : ((pairsV l).drop (i * 2)).take 2 = [str l[i].1, str l[i].2] := by
  rw [pairsV_drop, List.drop_eq_getElem_cons h]
  rfl
section
variable {F : List Assn} {z : Pw} {s : St} {w : World} {tp : Nat}
theorem has_spec {t : T} {l : List (Bs × Bs)} {vl : Value} (hs : Sat (pgr z s none :: tbT z tp t :: F) w) (hl : RdS F 2 vl l.length (pairsV l)) (hn : l.length ≤ 100000) (hk : ∀ p ∈ l, 1 ≤ p.1.length ∧ p.1.length ≤ 64)
    (hget : ∀ p ∈ l, ∀ r s', getT z.E t.height t.root p.1 s r s' → r = .ok (some p.2) ∧ s' = s) (hc : t.count = l.length) (hrt : t.root ≤ 100000) (hh : t.height ≤ 100000) :
    Ret Tryz.prog 22 [ptr tp, vl] w fun v w' => v = bool true ∧ Sat (pgr z s none :: tbT z tp t :: F) w' := by
  obtain ⟨p, c, rfl, hcap, _⟩ := hl.shape
  refine Ret.enter [(true, ptr tp), (true, .slice p l.length c)] _ Tryz.func22 rfl Tryz.ntmps22 rfl ?_
  refine zz ?_
  refine MC.loop (σ := Nat) (fun i => [(0, true, ptr tp), (1, true, .slice p l.length c), (10, true, .slice p l.length c), (11, true, int ((l.length : Nat) : Int)), (12, true, int ((i : Nat) : Int))])
    (fun i w => i ≤ l.length ∧ Sat (pgr z s none :: tbT z tp t :: F) w) (fun i => l.length - i) 0 (by repeat (first | exact trivial | refine ⟨rfl, ?_⟩)) ⟨Nat.zero_le _, hs⟩ ?_
  clear hs
  rintro i w ⟨hi, hs⟩
  dsimp only [] at hi hs ⊢
  by_cases h : i < l.length
  · obtain ⟨lb, lo, rfl, hrl⟩ := hl.at_ (by omega)
    have hmem := List.getElem_mem h
    have hkl := hk _ hmem
    have hat : ((pairsV l).drop (((i : Nat) : Int).toNat * 2)).take 2 = [str l[i].1, str l[i].2] := by rw [Int.toNat_natCast]; exact pairsV_two h
    refine zz ?_
    refine MC.la true (la_loadV_rd hrl hs (j := ((i : Nat) : Int).toNat * 2) rfl hat rfl rfl) rfl ?_
    refine zz ?_
    refine MC.does true (does_alloc hs) rfl ?_; rintro _ w ⟨b6, rfl, hs⟩
    refine zz ?_
    refine MC.does true (does_store (vs := [str l[i].1, str l[i].2]) hs rfl rfl rfl rfl (all1 rfl) (by simp)) rfl ?_; intro _ w hs; rw [splice_all (by rfl)] at hs
    refine zz ?_
    refine MC.does true (does_ofStr hs rfl) rfl ?_
    intro vk w hs
    have hs := hs.pickF 4 [2, 3, 0, 1] rfl rfl
    have hg := tGet_spec hs (RdS.of_sl hs.tail.tail).up hkl hrt hh
    obtain ⟨_, qk, ck, rfl, _⟩ := hs.tail.tail.sl_len
    refine zz ?_
    refine MC.does true (does_call rfl (hg)) rfl ?_
    rintro _ w (⟨o, s1, hm, hs⟩ | ⟨e, s1, he, hm, _⟩)
    · obtain ⟨e1, rfl⟩ := hget _ hmem _ _ hm
      cases e1
      obtain ⟨vv, rfl, hs⟩ := hs
      obtain ⟨_, qv, cv, rfl, _⟩ := hs.sl_len
      refine zz ?_
      refine MC.la true (la_tostr rfl (RdS.of_sl hs) hs) rfl ?_
      refine zz ?_
      refine MC.cond rfl (fun h => absurd rfl h) (fun _ => ?_)
      refine zz ?_
      exact MC.again (i + 1) (by repeat (first | exact trivial | refine ⟨rfl, ?_⟩)) ⟨h, hs.pickF 5 [1, 2] rfl rfl⟩ (by show l.length - (i + 1) < l.length - i; omega)
    · obtain ⟨e1, _⟩ := hget _ hmem _ _ hm
      cases e1
  · have hcnt := tCount_spec hs
    refine zz ?_
    refine MC.does true (does_call rfl (hcnt)) rfl ?_
    rintro _ _ ⟨rfl, rfl⟩
    refine zz ?_
    refine MC.ret rfl ?_
    exact ⟨by rw [decide_eq_true (by rw [hc])]; rfl, hs⟩
end
end Go.Proofs.YtjlofdodiaklaaaGreat

namespace Go.Pa
open Go.Tr
open Go.Proofs.YtjlofdodiaklaaaGreat (dn liveK liveK_len liveK_at)

section
variable {E : En} {KK : List Nat} {s : St} {F : List PA} {sec : Nat → Go.Tr.Bs} {d : Bool} {b : Nat → Go.Tr.Bs} {live : List Nat} {k : Nat}
theorem rd_live (hl : ∀ k, 2 ≤ k → k < 400 → k ∈ live) (h2 : 2 ≤ k) (h4 : k < 400) : rd ⟨sec, d, 2⟩ ⟨liveK live, b⟩ k = some (sec k) := by
  have hk : (⟨liveK live, b⟩ : St).kind ⟨sec, d, 2⟩ k = some 2 := by
    unfold St.kind
    rw [if_neg (by show ¬ k < 2; omega)]
    show (liveK live)[k - 2]? = _
    rw [liveK_at _ (by omega), if_pos (by rw [show 2 + (k - 2) = k by omega]; exact hl k h2 h4)]
  unfold rd
  rw [hk, if_neg (by decide), if_pos rfl]
theorem found {m : Ph} (h : Al F m) (hl : ∀ k, 2 ≤ k → k < 400 → k ∈ live) (hm : ∀ k o, m k = some o → 2 ≤ k ∧ k < 400 ∧ sec k = o) : PS ⟨sec, d, 2⟩ (liveK live) F ⟨liveK live, b⟩ :=
  ⟨h.mono fun k o e => by
    obtain ⟨h2, h4, e3⟩ := hm k o e
    rw [rd_live hl h2 h4, e3], by show 2 + (liveK live).length ≤ 8192; rw [liveK_len]; decide, Kst.refl _⟩
theorem rd_old (hk : ∀ c ∈ s.kinds, c = 0 ∨ c = 2) {o : Go.Tr.Bs} (h : rd E s k = some o) : s.kind E k = some 2 ∧ E.sec k = o := by
  unfold rd at h
  have h1 : s.kind E k ≠ some 1 := fun e => by
    unfold St.kind at e
    split at e
    · cases e
    · rcases hk 1 (List.mem_of_getElem? e) with h | h <;> cases h
  rw [if_neg h1] at h
  split at h
  · next e => cases h; exact ⟨e, rfl⟩
  · cases h
theorem dn_kinds (hk : ∀ c ∈ s.kinds, c ≤ 3) : ∀ c ∈ s.kinds.map dn, c = 0 ∨ c = 2 := fun c hc => by
  obtain ⟨x, hx, rfl⟩ := List.mem_map.1 hc
  have := hk x hx
  unfold dn
  split
  · exact .inl rfl
  · split
    · exact .inr rfl
    · omega
end
end Go.Pa

namespace Go.Pa
open Go.Tr
open Go.Proofs.YtjlofdodiaklaaaGreat (delP insP hasP beforeK)

section
variable {l A B C : List Pr} {k v : Go.Tr.Bs}
theorem before_mid (hA : ∀ x ∈ A, ltB x.1 k = true) (hC : ∀ x ∈ C, ltB x.1 k = false) : beforeK (A ++ C) k = A.length := by
  unfold beforeK
  rw [List.takeWhile_append_of_pos (by exact hA)]
  cases C with
  | nil => simp
  | cons c C =>
    rw [List.takeWhile_cons_of_neg (by rw [hC c (List.mem_cons_self)]; decide)]
    simp
theorem del_list (h : srt l) : delP l k = delL l k ∧ hasP l k = hasK l k := by
  obtain ⟨h1, h2⟩ := srt_split k h
  unfold delL
  have hA : ∀ x ∈ l.filter (fun x => ltB x.1 k), ltB x.1 k = true := fun x hx => (List.mem_filter.1 hx).2
  have hC : ∀ x ∈ l.filter (fun x => ltB k x.1), ltB k x.1 = true := fun x hx => (List.mem_filter.1 hx).2
  have hB : ∀ x ∈ l.filter (fun x => decide (x.1 = k)), x.1 = k := fun x hx => of_decide_eq_true (List.mem_filter.1 hx).2
  generalize l.filter (fun x => ltB x.1 k) = A at *
  generalize l.filter (fun x => ltB k x.1) = C at *
  generalize l.filter (fun x => decide (x.1 = k)) = B at *
  have hb : beforeK l k = A.length := by
    rw [h1]
    refine before_mid hA fun x hx => ?_
    rcases List.mem_append.1 hx with hx | hx
    · rw [hB x hx]; exact ltB_irrefl k
    · exact ltB_asymm (hC x hx)
  unfold delP hasP
  rw [hb]
  cases hh : hasK l k with
  | true =>
    rw [hh, if_pos rfl] at h2
    obtain ⟨b, rfl⟩ := List.length_eq_one_iff.1 h2
    have hbk := hB b (List.mem_singleton.2 rfl)
    have hg : (l[A.length]?).map (·.1) = some k := by
      rw [h1, List.getElem?_append_right (Nat.le_refl _), Nat.sub_self]
      simp [hbk]
    rw [if_pos hg, decide_eq_true hg]
    refine ⟨?_, rfl⟩
    conv => lhs; rw [h1]
    rw [List.take_left, ← List.drop_drop, List.drop_left]
    rfl
  | false =>
    rw [hh, if_neg (by decide)] at h2
    have hB0 := List.eq_nil_of_length_eq_zero h2
    subst hB0
    have hg : ¬ (l[A.length]?).map (·.1) = some k := by
      rw [h1, List.nil_append, List.getElem?_append_right (Nat.le_refl _), Nat.sub_self]
      cases C with
      | nil => simp
      | cons c C =>
        have := ltB_ne (hC c List.mem_cons_self)
        simp only [List.getElem?_cons_zero, Option.map_some, Option.some.injEq]
        exact fun e => this e.symm
    rw [if_neg hg, decide_eq_false hg]
    exact ⟨h1, rfl⟩
theorem ins_list (h : srt l) : insP l k v = insL l k v := by
  unfold insP
  rw [(del_list h).1]
  unfold insL delL
  have hA : ∀ x ∈ l.filter (fun x => ltB x.1 k), ltB x.1 k = true := fun x hx => (List.mem_filter.1 hx).2
  have hC : ∀ x ∈ l.filter (fun x => ltB k x.1), ltB k x.1 = true := fun x hx => (List.mem_filter.1 hx).2
  generalize l.filter (fun x => ltB x.1 k) = A at *
  generalize l.filter (fun x => ltB k x.1) = C at *
  rw [before_mid hA fun x hx => ltB_asymm (hC x hx), List.take_left, List.drop_left]
  rfl
end
end Go.Pa

namespace Go.Proofs.YtjlofdodiaklaaaGreat
open Go Go.Sl Go.Tr
attribute [local irreducible] LooksAt

section
variable {F : List Assn} {z : Pw} {s : St} {mk : Option (Nat × St)} {w : World}
def Pw.on (z : Pw) (D' : Dev) : Pw := { z with D := D', E := ⟨z.E.sec, decide (D'.fuse = 1), z.E.frm⟩ }
theorem ok_on {g : Pg} {E : En} {d : Bool} {H : Nat → Prop} (hg : g.ok E H s mk) : g.ok ⟨E.sec, d, E.frm⟩ H s mk := by
  obtain ⟨hx, hy⟩ := hg
  have hh : ∀ {x : Half} {s : St}, x.ok E s g.pool H → x.ok ⟨E.sec, d, E.frm⟩ s g.pool H := fun h => ⟨h.pos, h.few, h.cap, h.spl, h.small, h.has, h.held⟩
  refine ⟨hh hx, ?_⟩
  cases mk with
  | none => trivial
  | some x => exact hh hy
theorem pgr_dev (hs : Sat (pgr z s mk :: F) w) : ∃ (A1 A2 A3 A4 A5 A6 : Assn) (r : Int), Sat (dev z.pd { z.D with reads := r } :: A1 :: A2 :: A3 :: A4 :: A5 :: A6 :: F) w ∧ z.ok ∧
    ∀ (D' : Dev) (w' : World) (F' : List Assn), D'.ok → D'.S = z.D.S → D'.O = z.D.O → Sat (dev z.pd D' :: A1 :: A2 :: A3 :: A4 :: A5 :: A6 :: F') w' → Sat (pgr (z.on D') s mk :: F') w' := by
  obtain ⟨g, hg, hz, hs⟩ := pgr_open hs
  have hs := hs.pickF 7 [5, 0, 1, 2, 3, 4, 6] rfl rfl
  obtain ⟨r, hs⟩ := Sat.ex_iff.1 hs
  refine ⟨_, _, _, _, _, _, r, hs, hz, fun D' w' F' hD hS hO hs' => ?_⟩
  have hget : ∀ k, D'.get k = z.D.get k := fun k => by unfold Dev.get; rw [hS, hO]
  have hs' : Sat (devr z.pd D' :: _) w' := Sat.ex_iff.2 ⟨D'.reads, hs'⟩
  exact pgr_shut (g := g) (z := z.on D') (ok_on hg) ⟨hD, by show D'.O.length ≤ _; rw [hO]; exact hz.few, fun k h => by show k < D'.S.length; rw [hS]; exact hz.fits k h, fun k h => by show D'.get k = _; rw [hget]; exact hz.sec k h, by show decide (D'.fuse = 1) = true ↔ _; simp [Pw.on]⟩ (hs'.pickF 7 [1, 2, 3, 4, 5, 0, 6] rfl rfl)
end
end Go.Proofs.YtjlofdodiaklaaaGreat

namespace Go.Proofs.YtjlofdodiaklaaaGreat
open Go Go.Sl Go.Tr Go.Pa
attribute [local irreducible] LooksAt

def savedF (t : T) : List Int := [rootI t + 1, ((t.height : Nat) : Int), ((t.count : Nat) : Int)]
structure Low (t : T) (l : List (Bs × Bs)) (c : Nat) : Prop where
  holds : Holds t l
  keys : ∀ p ∈ l, 1 ≤ p.1.length ∧ p.1.length ≤ 64
  few : l.length ≤ c
  high : t.height ≤ c
  root : t.root ≤ 100000
theorem Low.mono {t : T} {l : List (Bs × Bs)} {c d : Nat} (h : Low t l c) (hd : c ≤ d) : Low t l d :=
  ⟨h.holds, h.keys, Nat.le_trans h.few hd, Nat.le_trans h.high hd, h.root⟩
def Stands (P : Nat → Prop) (L : Nat → Bs) (t : T) (l : List (Bs × Bs)) : Prop := Low t l 1000 ∧ ∃ m : Ph, Al [trT t l] m ∧ ∀ k o, m k = some o → P k ∧ L k = o
def Tells (P : Nat → Prop) (L : Nat → Bs) (n : Nat) (l : List (Bs × Bs)) (S : Sv) : Prop := if n = 0 then S.stands = false else ∃ t, S = ⟨true, ((n : Nat) : Int), savedF t⟩ ∧ Stands P L t l
section
variable {P Q : Nat → Prop} {L L' : Nat → Bs} {n : Nat} {l was : List (Bs × Bs)} {S : Sv} {t t' t0 : T}
theorem Stands.mono (h : Stands P L t l) (hq : ∀ k, P k → Q k ∧ L' k = L k) : Stands Q L' t l := by
  obtain ⟨h1, m, h2, h3⟩ := h
  refine ⟨h1, m, h2, fun k o e => ?_⟩
  obtain ⟨h4, h5⟩ := h3 k o e
  exact ⟨(hq k h4).1, by rw [(hq k h4).2, h5]⟩
theorem Tells.mono (h : Tells P L n l S) (hq : ∀ k, P k → Q k ∧ L' k = L k) : Tells Q L' n l S := by
  unfold Tells at h ⊢
  split
  · next e => rw [if_pos e] at h; exact h
  · next e =>
    rw [if_neg e] at h
    obtain ⟨t, h1, h2⟩ := h
    exact ⟨t, h1, h2.mono hq⟩
theorem Tells.epoch (h : Tells P L n l S) (hS : S.ok) : S.epoch = ((n : Nat) : Int) := by
  unfold Tells at h
  split at h
  · next e => rw [hS.no h, e]; rfl
  · obtain ⟨t, rfl, _⟩ := h; rfl
def In4 (k : Nat) : Prop := 2 ≤ k ∧ k < 400
def Gone (D : Dev) (n : Nat) (down : Bool) (was l : List (Bs × Bs)) : Prop := D.ok ∧ D.O.length ≤ 1000 ∧ ∀ kept torn at',
  ((D.lose kept torn at').ok ∧ (D.lose kept torn at').S.length = 400 ∧ (D.lose kept torn at').O = [] ∧ (D.lose kept torn at').fuse = 0) ∧
    ∃ A B, readS 0 ((D.lose kept torn at').get (0 : Int).toNat) = A ∧ readS 1 ((D.lose kept torn at').get ((0 : Int) + 1).toNat) = B ∧ A.fields.length ≤ 40 ∧ B.fields.length ≤ 40 ∧
      (Tells In4 (fun k => (D.lose kept torn at').get k) n was (latestOf A B) ∨ (down = true ∧ Tells In4 (fun k => (D.lose kept torn at').get k) (n + 1) l (latestOf A B)))
theorem gone_of {SS : List (List UInt8)} {L0 N : Sv} {D : Dev} {down : Bool} (h : After P SS L0 N D) (h0 : ∀ L : Nat → Bs, (∀ k, P k → L k = SS.getD k []) → Tells In4 L n was L0)
    (hN : ∀ L : Nat → Bs, (∀ k, P k → L k = SS.getD k []) → Tells In4 L n was N ∨ (down = true ∧ Tells In4 L (n + 1) l N)) : Gone D n down was l := by
  refine ⟨h.ok, h.few, fun kept torn at' => ?_⟩
  obtain ⟨h1, h2, A, B, h3, h4, h5, h6, h7⟩ := h.lose kept torn at'
  refine ⟨h1, A, B, h3, h4, h5, h6, ?_⟩
  rcases h7 with e | e
  · rw [e]; exact hN _ h2
  · rw [e]; exact .inl (h0 _ h2)
structure Rnd (z : Pw) (s : St) (t : T) (l : List (Bs × Bs)) (A B : Sv) (n : Nat) : Prop where
  coh : Coh z.D A B
  frm : z.E.frm = 2
  len : s.kinds.length = 398
  kin : ∀ c ∈ s.kinds, c = 0 ∨ c = 2
  sec : ∀ k, z.E.sec k = z.D.get k
  ps : PS z.E s.kinds [trT t l] s
  low : Low t l (n * 15)
  tells : Tells (fun k => s.kind z.E k = some 2) (fun k => z.D.S.getD k []) n l (latestOf A B)
structure Mid (z : Pw) (s0 s : St) (t : T) (l : List (Bs × Bs)) (c : Nat) : Prop where
  ps : PS z.E s0.kinds [trT t l] s
  low : Low t l c
variable {z : Pw} {s0 s s' : St} {A B : Sv} {c : Nat} {key value : Bs}
theorem Rnd.mid (h : Rnd z s t l A B n) : Mid z s s t l (n * 15) := ⟨h.ps, h.low⟩
theorem mem_ins {p : Bs × Bs} (h : p ∈ insL l key value) : p = (key, value) ∨ p ∈ l := by
  unfold insL at h
  rcases List.mem_append.1 h with h | h
  · exact .inr (List.mem_filter.1 h).1
  · rcases List.mem_cons.1 h with h | h
    · exact .inl h
    · exact .inr (List.mem_filter.1 h).1
theorem mem_del {p : Bs × Bs} (h : p ∈ delL l key) : p ∈ l := by
  unfold delL at h
  rcases List.mem_append.1 h with h | h
  · exact (List.mem_filter.1 h).1
  · exact (List.mem_filter.1 h).1
theorem Mid.put (h : Mid z s0 s t l c) (hp : putT z.E t key value s (.ok t') s') (hk : 1 ≤ key.length ∧ key.length ≤ 64) (h1 : 1 ≤ t'.height) : Mid z s0 s' t' (insL l key value) (c + 1) := by
  obtain ⟨h2, h3⟩ := put_ok' h.low.holds h.ps _ _ hp
  obtain ⟨_, h4⟩ := (tree_small h3 h2).2 h1
  have h5 := putT_height hp
  have h6 := h.low.high
  have h7 := h.low.few
  have h8 := h2.2.1
  refine ⟨h2, h3, fun p hp => ?_, ?_, by omega, by omega⟩
  · rcases mem_ins hp with rfl | hp
    · exact hk
    · exact h.low.keys p hp
  · rw [len_ins h.low.holds.srt]
    split <;> omega
def normT (t : T) : T := if t.height = 0 then ⟨0, 0, t.count⟩ else t
theorem norm_root (t : T) : rootI (normT t) = rootI t ∧ (normT t).height = t.height ∧ (normT t).count = t.count := by
  unfold normT rootI
  by_cases h : t.height = 0
  · rw [if_pos h, if_pos h]
    exact ⟨if_pos rfl, h.symm, rfl⟩
  · rw [if_neg h, if_neg h]
    exact ⟨rfl, rfl, rfl⟩
theorem norm_tr (t : T) : trT (normT t) l = trT t l := by
  unfold normT
  by_cases h : t.height = 0
  · rw [if_pos h]; unfold trT; rw [h]
  · rw [if_neg h]
theorem norm_tb {tp : Nat} : tbT z tp (normT t) = tbT z tp t := by
  obtain ⟨h1, h2, h3⟩ := norm_root t
  unfold tbT
  rw [h1, h2, h3]
theorem Mid.del {is : Bool} (h : Mid z s0 s t l c) (hd : delT z.E t key s (.ok (t', is)) s') : is = hasK l key ∧ Mid z s0 s' (normT t') (delL l key) (c + 1) := by
  obtain ⟨h1, h2, h3⟩ := del_ok' h.low.holds h.ps _ _ hd
  have h5 := delT_height hd
  have h6 := h.low.high
  have h7 := h.low.few
  have h8 := h2.2.1
  obtain ⟨n1, n2, n3⟩ := norm_root t'
  refine ⟨h1, by rw [norm_tr]; exact h2, ⟨h3.srt, by rw [n3]; exact h3.cnt⟩, fun p hp => h.low.keys p (mem_del hp), ?_, by rw [n2]; omega, ?_⟩
  · rw [len_del h.low.holds.srt]; exact Nat.le_trans (Nat.sub_le _ _) (by omega)
  · by_cases h0 : t'.height = 0
    · unfold normT; rw [if_pos h0]; exact Nat.zero_le _
    · have := ((tree_small h3 h2).2 (by show 1 ≤ t'.height; omega)).2
      unfold normT; rw [if_neg h0]
      exact Nat.le_of_lt (Nat.lt_of_lt_of_le this (Nat.le_trans h8 (by decide)))
theorem Mid.kept (h : Mid z s0 s t l c) {k : Nat} (hk : s0.kind z.E k = some 2) : s.kind z.E k = some 2 ∨ s.kind z.E k = some 3 := by
  have h1 := kind_in hk
  refine kst_old h.ps.2.2 (by omega) ?_
  unfold St.kind at hk
  rw [if_neg (by omega)] at hk
  exact hk
theorem Mid.not1 (h : Mid z s0 s t l c) {k : Nat} (hk : s0.kind z.E k = some 2) : s.kind z.E k ≠ some 1 := by
  rcases h.kept hk with e | e <;> rw [e] <;> decide
theorem Rnd.in4 (h : Rnd z s0 t0 was A B n) {s : St} (hl : s.kinds.length = s0.kinds.length) {k x : Nat} (hk : s.kind z.E k = some x) : In4 k := by
  have := kind_in hk
  have h1 := h.frm
  have h2 := h.len
  unfold In4
  omega
theorem Mid.len (m : Mid z s0 s t l c) : s.kinds.length = s0.kinds.length := m.ps.2.2.1
theorem Rnd.cut (h : Rnd z s0 t0 was A B n) (m : Mid z s0 s t l c) (hb : ∀ k, s.kind z.E k = some 1 → (s.by_ k).length = 256) {j : Nat} (hj : j ≤ s.kinds.length) : Gone (flD z.E s z.D j) n true was l := by
  have h1 := h.frm
  have h2 := h.len
  have h3 := h.coh.len
  have h4 := m.len
  refine gone_of (after_flush (N := latestOf A B) h.coh (by omega) hb (by omega) (by omega)) ?_ ?_
  · exact fun L hL => h.tells.mono fun k hk => ⟨h.in4 rfl hk, hL k (m.not1 hk)⟩
  · exact fun L hL => .inl (h.tells.mono fun k hk => ⟨h.in4 rfl hk, hL k (m.not1 hk)⟩)
theorem Rnd.flushed (h : Rnd z s0 t0 was A B n) (m : Mid z s0 s t l c) (hc : c ≤ 1000) {S : List (List UInt8)} (hS : ∀ k, 2 ≤ k → S.getD k [] = if s.kind z.E k = some 1 then s.by_ k else z.D.S.getD k []) :
    Tells In4 (fun k => S.getD k []) n was (latestOf A B) ∧ Stands (fun k => In4 k ∧ (s.kind z.E k = some 1 ∨ s.kind z.E k = some 2)) (fun k => S.getD k []) t l := by
  constructor
  · refine h.tells.mono fun k hk => ?_
    have hi := h.in4 rfl hk
    exact ⟨hi, by show S.getD k [] = z.D.S.getD k []; rw [hS k hi.1, if_neg (m.not1 hk)]⟩
  · refine ⟨m.low.mono hc, _, m.ps.1, fun k o e => ?_⟩
    unfold rd at e
    by_cases e1 : s.kind z.E k = some 1
    · rw [if_pos e1] at e
      have hi := h.in4 m.len e1
      exact ⟨⟨hi, .inl e1⟩, by show S.getD k [] = o; rw [hS k hi.1, if_pos e1]; exact Option.some.inj e⟩
    · rw [if_neg e1] at e
      by_cases e2 : s.kind z.E k = some 2
      · rw [if_pos e2] at e
        have hi := h.in4 m.len e2
        exact ⟨⟨hi, .inr e2⟩, by show S.getD k [] = o; rw [hS k hi.1, if_neg e1, ← get_noO h.coh.noO, ← h.sec]; exact Option.some.inj e⟩
      · rw [if_neg e2] at e; cases e
theorem Rnd.torn (h : Rnd z s0 t0 was A B n) (m : Mid z s0 s t l c) (hc : c ≤ 1000) {S : List (List UInt8)} {D : Dev} (hS : ∀ k, 2 ≤ k → S.getD k [] = if s.kind z.E k = some 1 then s.by_ k else z.D.S.getD k [])
    (ha : After (fun k => 2 ≤ k) S (latestOf A B) ⟨true, ((n : Nat) : Int) + 1, savedF t⟩ D) : Gone D n true was l := by
  obtain ⟨h1, h2⟩ := h.flushed m hc hS
  refine gone_of ha ?_ ?_
  · exact fun L hL => h1.mono fun k hk => ⟨hk, hL k hk.1⟩
  · refine fun L hL => .inr ⟨rfl, ?_⟩
    unfold Tells
    rw [if_neg (by omega)]
    exact ⟨t, by rw [Int.natCast_add]; rfl, h2.mono fun k hk => ⟨hk.1, hL k hk.1.1⟩⟩
theorem Rnd.next (h : Rnd z s0 t0 was A B n) (m : Mid z s0 s t l (n * 15 + 15)) (hn : n ≤ 10) (hsm : ∀ c ∈ s.kinds, c ≤ 3) {A' B' : Sv} {D : Dev} {b : Nat → Bs} {H : Nat → Prop} (hS : ∀ k, 2 ≤ k → D.S.getD k [] = if s.kind z.E k = some 1 then s.by_ k else z.D.S.getD k [])
    (hC : Coh D A' B') (hL : latestOf A' B' = ⟨true, ((n : Nat) : Int) + 1, savedF t⟩) {d : Bool} : Rnd { z with D := D, E := ⟨fun k => D.get k, d, z.E.frm⟩, H := H } ⟨s.kinds.map dn, b⟩ t l A' B' (n + 1) := by
  obtain ⟨h1, h2⟩ := h.flushed m (by omega) hS
  have hk1 : ∀ k, s.kind z.E k = some 1 → (fun k => D.get k) k = s.by_ k := fun k e => by
    have hi := h.in4 m.len e
    show D.get k = _
    rw [get_noO hC.noO, hS k hi.1, if_pos e]
  have hk2 : ∀ k, s.kind z.E k = some 2 → (fun k => D.get k) k = z.E.sec k := fun k e => by
    have hi := h.in4 m.len e
    show D.get k = _
    rw [get_noO hC.noO, hS k hi.1, if_neg (by rw [e]; decide), h.sec, get_noO h.coh.noO]
  refine ⟨hC, h.frm, ?_, dn_kinds hsm, fun k => rfl, ps_done m.ps hk1 hk2, m.low.mono (by omega), ?_⟩
  · show (s.kinds.map dn).length = 398
    rw [List.length_map, m.len, h.len]
  · unfold Tells
    rw [if_neg (by omega)]
    refine ⟨t, by rw [hL, Int.natCast_add]; rfl, h2.mono fun k hk => ⟨?_, rfl⟩⟩
    show (⟨s.kinds.map dn, b⟩ : St).kind ⟨fun k => D.get k, d, z.E.frm⟩ k = some 2
    rw [kind_map (E := z.E)]
    rcases hk.2 with e | e <;> rw [e] <;> rfl
theorem Rnd.gone (h : Rnd z s t l A B n) : Gone z.D n false l l := by
  refine gone_of (after_still h.coh (latestOf A B)) ?_ ?_
  · exact fun L hL => h.tells.mono fun k hk => ⟨h.in4 rfl hk, hL k trivial⟩
  · exact fun L hL => .inl (h.tells.mono fun k hk => ⟨h.in4 rfl hk, hL k trivial⟩)
theorem srt_find {p : Bs × Bs} (h : srt l) (hp : p ∈ l) : lookL l p.1 = some p.2 := by
  induction l with
  | nil => cases hp
  | cons a l ih =>
    obtain ⟨h1, h2⟩ := List.pairwise_cons.1 h
    unfold lookL
    rcases List.mem_cons.1 hp with rfl | hp
    · simp
    · have hne : a.1 ≠ p.1 := fun e => by
        have := h1 p hp
        rw [e, ltB_irrefl] at this
        cases this
      rw [List.find?_cons_of_neg (by simpa using hne)]
      exact ih h2 hp
theorem stands_get {live : List Nat} {b : Nat → Bs} (h : Stands In4 L t l) (hl : ∀ k, 2 ≤ k → k < 400 → k ∈ live) : ∀ p ∈ l, ∀ r s', getT ⟨L, false, 2⟩ t.height t.root p.1 ⟨liveK live, b⟩ r s' → r = .ok (some p.2) ∧ s' = ⟨liveK live, b⟩ := by
  obtain ⟨h1, m, h2, h3⟩ := h
  intro p hp r s' hr
  have a : PS ⟨L, false, 2⟩ (liveK live) [trT t l] ⟨liveK live, b⟩ := found h2 hl fun k o e => ⟨(h3 k o e).1.1, (h3 k o e).1.2, (h3 k o e).2⟩
  by_cases h0 : t.height = 0
  · obtain ⟨rfl, _⟩ := (trT_zero h0).1 a
    cases hp
  · obtain ⟨j, h5⟩ : ∃ j, t.height = j + 1 := ⟨t.height - 1, by omega⟩
    have hg := (look_gets (key := p.1) h5 a).sure rfl hr
    rw [srt_find h1.holds.srt hp] at hg
    exact hg
theorem stands_small {live : List Nat} {b : Nat → Bs} (h : Stands In4 L t l) (hl : ∀ k, 2 ≤ k → k < 400 → k ∈ live) : (t.height = 0 → t.count = 0) ∧ (1 ≤ t.height → 1 ≤ t.count) := by
  obtain ⟨h1, m, h2, h3⟩ := h
  have a : PS ⟨L, false, 2⟩ (liveK live) [trT t l] ⟨liveK live, b⟩ := found h2 hl fun k o e => ⟨(h3 k o e).1.1, (h3 k o e).1.2, (h3 k o e).2⟩
  have := tree_small h1.holds a
  exact ⟨this.1, fun h => (this.2 h).1⟩
end
end Go.Proofs.YtjlofdodiaklaaaGreat

namespace Go.Proofs.YtjlofdodiaklaaaGreat
open Go Go.Sl Go.Tr Go.Pa
attribute [local irreducible] LooksAt

section
variable {F : List Assn} {z : Pw} {s s0 : St} {t t0 : T} {mk : Option (Nat × St)} {w : World} {A B : Sv} {n c : Nat} {l was : List (Bs × Bs)}
theorem pgr_dev2 (hs : Sat (pgr z s mk :: F) w) : ∃ (A1 A2 A3 A4 A5 A6 : Assn) (r : Int), Sat (dev z.pd { z.D with reads := r } :: A1 :: A2 :: A3 :: A4 :: A5 :: A6 :: F) w ∧ z.ok ∧ (∀ k, z.H k ↔ s.kind z.E k = some 2 ∨ s.kind z.E k = some 3) ∧
    (∀ k, s.kind z.E k = some 1 → (s.by_ k).length = 256) ∧ (∀ c ∈ s.kinds, c ≤ 3) ∧
    ∀ (D' : Dev) (w' : World) (F' : List Assn), (z.on D').ok → Sat (dev z.pd D' :: A1 :: A2 :: A3 :: A4 :: A5 :: A6 :: F') w' → Sat (pgr (z.on D') s mk :: F') w' := by
  obtain ⟨g, hg, hz, hs⟩ := pgr_open hs
  have hs := hs.pickF 7 [5, 0, 1, 2, 3, 4, 6] rfl rfl
  obtain ⟨r, hs⟩ := Sat.ex_iff.1 hs
  refine ⟨_, _, _, _, _, _, r, hs, hz, hg.x.held, fun k hk => (hg.x.has k hk).1, hg.x.small, fun D' w' F' hD hs' => ?_⟩
  have hs' : Sat (devr z.pd D' :: _) w' := Sat.ex_iff.2 ⟨D'.reads, hs'⟩
  exact pgr_shut (g := g) (z := z.on D') (ok_on hg) hD (hs'.pickF 7 [1, 2, 3, 4, 5, 0, 6] rfl rfl)
theorem on_ok {D : Dev} (h : Rnd z s0 t0 was A B n) (m : Mid z s0 s t l c) (hH : ∀ k, z.H k ↔ s.kind z.E k = some 2 ∨ s.kind z.E k = some 3) (hD : D.ok) (hO : D.O = []) (hl : D.S.length = 400)
    (hS : ∀ k, 2 ≤ k → D.S.getD k [] = if s.kind z.E k = some 1 then s.by_ k else z.D.S.getD k []) : (z.on D).ok := by
  have hin : ∀ k, z.H k → In4 k ∧ s.kind z.E k ≠ some 1 := fun k hk => by
    rcases (hH k).1 hk with e | e
    · exact ⟨h.in4 m.len e, by rw [e]; decide⟩
    · exact ⟨h.in4 m.len e, by rw [e]; decide⟩
  refine ⟨hD, by show D.O.length ≤ _; rw [hO]; exact Nat.zero_le _, fun k hk => ?_, fun k hk => ?_, by show decide (D.fuse = 1) = true ↔ _; simp [Pw.on]⟩
  · show k < D.S.length
    have := (hin k hk).1.2
    omega
  · show D.get k = z.E.sec k
    have hi := hin k hk
    rw [get_noO hO, hS k hi.1.1, if_neg hi.2, h.sec, get_noO h.coh.noO]
theorem flush_top (hs : Sat (pgr z s none :: F) w) (h : Rnd z s0 t0 was A B n) (m : Mid z s0 s t l c) :
    Ret Tryz.prog 15 [ptr z.p] w fun v w' =>
      (∃ e D, e ≠ 0 ∧ v = int e ∧ Gone D n true was l ∧ Sat (devr z.pd D :: F) w') ∨
      (v = int 0 ∧ ∃ D, Coh D A B ∧ (∀ k, 2 ≤ k → D.S.getD k [] = if s.kind z.E k = some 1 then s.by_ k else z.D.S.getD k []) ∧ Sat (pgr (z.on D) s none :: F) w') := by
  obtain ⟨_, _, _, _, _, _, _, _, hz, hH, hb, _, _⟩ := pgr_dev2 hs
  have h1 := h.frm
  have h2 := h.len
  have h3 := h.coh.len
  have h4 := m.len
  refine (flush_spec hs (by omega) (by rw [h.coh.noO]; exact Nat.zero_le _)).mono ?_
  rintro v w' (⟨e, j, he, hj, rfl, hs⟩ | ⟨rfl, g, hg, hs⟩)
  · exact .inl ⟨e, _, he, rfl, h.cut m hb hj, hs⟩
  · obtain ⟨hC, hS⟩ := coh_flush (s := s) h.coh (by omega) hb (by omega)
    have hS2 : ∀ k, 2 ≤ k → (flD z.E s z.D s.kinds.length).sync.S.getD k [] = if s.kind z.E k = some 1 then s.by_ k else z.D.S.getD k [] := fun k _ => hS k
    exact .inr ⟨rfl, _, hC, hS2, pgr_shut (g := g) (z := z.on _) (ok_on hg) (on_ok h m hH hC.ok hC.noO hC.len hS2) hs⟩
theorem save_round {D : Dev} {rr : Nat} {vf : Value} (hs : Sat (sl vf 3 1 3 (intsV (savedF t)) :: pgr (z.on D) s none :: rt rr z.pd 0 A B :: F) w) (h : Rnd z s0 t0 was A B n) (m : Mid z s0 s t l (n * 15 + 15)) (hn : n ≤ 10)
    (hC : Coh D A B) (hS : ∀ k, 2 ≤ k → D.S.getD k [] = if s.kind z.E k = some 1 then s.by_ k else z.D.S.getD k []) :
    Ret Tryz.prog 16 [ptr rr, vf, int (((n : Nat) : Int) + 1)] w fun v w' =>
      (v = int 150 ∧ ∃ D', Gone D' n true was l ∧ Sat (devr z.pd D' :: F) w') ∨
      (v = int 0 ∧ ∃ D' A' B', (∀ b d H, Rnd { z with D := D', E := ⟨fun k => D'.get k, d, z.E.frm⟩, H := H } ⟨s.kinds.map dn, b⟩ t l A' B' (n + 1)) ∧ D'.S.length = 400 ∧ Sat (pgr (z.on D') s none :: rt rr z.pd 0 A' B' :: F) w') := by
  have hrd : RdS (sl vf 3 1 3 (intsV (savedF t)) :: F) 1 vf 3 (intsV (savedF t)) := RdS.of_sl (hs.pickF 3 [0] rfl rfl)
  obtain ⟨A1, A2, A3, A4, A5, A6, r, hs, hz, hH, hb, hsm, hback⟩ := pgr_dev2 (hs.pickF 3 [1, 0, 2] rfl rfl)
  have hs : Sat (rt rr z.pd 0 A B :: dev z.pd { D with reads := r } :: A1 :: A2 :: A3 :: A4 :: A5 :: A6 :: sl vf 3 1 3 (intsV (savedF t)) :: F) w := hs.pickF 9 [8, 0, 1, 2, 3, 4, 5, 6, 7] rfl rfl
  have hC' : Coh { D with reads := r } A B := ⟨{ hC.ok with }, hC.len, hC.noO, hC.a, hC.b, hC.okA, hC.okB⟩
  have hep := h.tells.epoch (latest_ok hC.okA hC.okB)
  have hlow := m.low
  have hcnt := hlow.holds.cnt
  have h3 := hlow.few
  have h4 := hlow.high
  have h5 := hlow.root
  have hroot : 0 ≤ rootI t + 1 ∧ rootI t + 1 ≤ 2147483647 := by
    unfold rootI; split <;> omega
  refine (save_top (f := savedF t) hs hC' hrd.up (by show 3 ≤ 40; decide) ?_ (by rw [hep]; omega) (by omega) (by omega)).mono ?_
  · intro x hx
    simp only [savedF, List.mem_cons, List.not_mem_nil, or_false] at hx
    rcases hx with rfl | rfl | rfl
    · exact hroot
    · omega
    · omega
  · rintro v w' (⟨rfl, D', ha, hs⟩ | ⟨rfl, A', B', D', hC2, hL, hS2, _, hs⟩)
    · exact .inl ⟨rfl, D', h.torn m (by omega) hS ha, Sat.ex_iff.2 ⟨D'.reads, hs.pickF 9 [1] rfl rfl⟩⟩
    · have hS3 : ∀ k, 2 ≤ k → D'.S.getD k [] = if s.kind z.E k = some 1 then s.by_ k else z.D.S.getD k [] := fun k hk => by
        rw [hS2 k hk]; exact hS k hk
      refine .inr ⟨rfl, D', A', B', fun b d H => h.next m hn hsm hS3 hC2 hL, hC2.len, ?_⟩
      exact hback D' _ _ (show (z.on D').ok from on_ok (z := z) h m hH hC2.ok hC2.noO hC2.len hS3) (hs.pickF 9 [1, 2, 3, 4, 5, 6, 7, 0] rfl rfl)
end
end Go.Proofs.YtjlofdodiaklaaaGreat
