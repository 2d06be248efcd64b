/-
  Sorting in place: forty at most | Nodes: Find | Sorting nothing; order | Nodes: own, joined, Join | Reading a key: next, ends, text | Nodes: Join
-/
import Derived.Test.YtkccjgllanpebaaGreatDoorYaz
import Derived.Test.YtkccjgllanpebaaGreatDoorYba
set_option maxHeartbeats 1000000
set_option linter.unusedVariables false
set_option linter.unusedSimpArgs false
namespace Go.Proofs.YtkccjgllanpebaaGreatDoor
open Go Go.Sl Go.Tr Go.Kv Go.Ms
attribute [local irreducible] LooksAt
theorem okE.of {D D' : List E} (h : okE D) (p : D'.Perm D) : okE D' := h.perm fun x hx => p.mem_iff.1 hx
set_option maxHeartbeats 8000000 in
theorem stable_spec {F : List Assn} {D : List E} {bd n c : Nat} {sp : List Value} {w : World} (hs : Sat (blk bd (cellsD D ++ sp) 32 :: F) w) (hTb : Tabs F) (hD : DL F D) (hO : okE D) (hn : D.length = n) (hN : n ≤ 40) :
    Ret Tryz.prog 71 [.slice (some ⟨bd, 0, none⟩) n c, int ((n : Nat) : Int), .func (.func 34) #[] #[]] w fun _ w' => ∃ Z : List E, Z.Perm D ∧ Srt ltE Z ∧ Sat (blk bd (cellsD Z ++ sp) 32 :: F) w' := by
  refine Ret.enter [(true, .slice (some ⟨bd, 0, none⟩) n c), (true, int ((n : Nat) : Int)), (true, .func (.func 34) #[] #[])] _ Tryz.func71 rfl Tryz.ntmps71 rfl ?_
  refine zz ?_
  refine MC.cutAtS (σ := Nat) 2 (fun k => [(0, true, .slice (some ⟨bd, 0, none⟩) n c), (1, true, int ((n : Nat) : Int)), (2, true, .func (.func 34) #[] #[]), (6, true, int 20), (7, true, int ((20 * k : Nat) : Int))])
    (fun k w => k ≤ 2 ∧ n < 20 * (k + 1) ∧ ∃ Z1 Z2 R : List E, (Z1 ++ (Z2 ++ R)).Perm D ∧ Z1.length = min 20 (20 * k) ∧ Z2.length = 20 * (k - 1) ∧ Srt ltE Z1 ∧ Srt ltE Z2 ∧ Sat (blk bd (cellsD (Z1 ++ (Z2 ++ R)) ++ sp) 32 :: F) w) rfl ?_ ?_
  rotate_left
  · (try dsimp only [List.drop_succ_cons, List.drop_zero, List.take_succ_cons, List.take_zero, List.cons_append, List.nil_append])
    refine MC.loop (σ := Nat) (fun k => [(0, true, .slice (some ⟨bd, 0, none⟩) n c), (1, true, int ((n : Nat) : Int)), (2, true, .func (.func 34) #[] #[]), (6, true, int 20), (7, true, int ((20 * k : Nat) : Int)), (8, true, int ((20 * (k + 1) : Nat) : Int))])
      (fun k w => k ≤ 2 ∧ 20 * k ≤ n ∧ ∃ Z1 Z2 R : List E, (Z1 ++ (Z2 ++ R)).Perm D ∧ Z1.length = min 20 (20 * k) ∧ Z2.length = 20 * (k - 1) ∧ Srt ltE Z1 ∧ Srt ltE Z2 ∧ Sat (blk bd (cellsD (Z1 ++ (Z2 ++ R)) ++ sp) 32 :: F) w)
      (fun k => 2 - k) 0 zi ⟨Nat.zero_le _, Nat.zero_le _, [], [], D, List.Perm.refl _, rfl, rfl, Srt.nil, Srt.nil, hs⟩ ?_
    clear hs
    rintro k w ⟨hk, hkn, Z1, Z2, R, hp, l1, l2, s1, s2, hs⟩
    dsimp only [] at hk hkn l1 l2 ⊢
    have hl := hp.length_eq
    rw [List.length_append, List.length_append] at hl
    rcases Nat.lt_or_ge n (20 * (k + 1)) with hlt | hge
    · refine zz ?_
      exact MC.meetS k zi ⟨hk, hlt, Z1, Z2, R, hp, l1, l2, s1, s2, hs⟩
    · have hD' : DL F (Z1 ++ (Z2 ++ R)) := hD.perm hp
      have hO' := hO.of hp
      rcases Nat.eq_zero_or_pos k with rfl | hk0
      · obtain rfl : Z1 = [] := List.eq_nil_of_length_eq_zero (by omega)
        obtain rfl : Z2 = [] := List.eq_nil_of_length_eq_zero (by omega)
        rw [List.nil_append, List.nil_append] at hs hD' hO' hp
        rw [List.length_nil, Nat.zero_add, Nat.zero_add] at hl
        obtain ⟨A, B, rfl, lA⟩ : ∃ A B, R = A ++ B ∧ A.length = 20 := ⟨R.take 20, R.drop 20, (List.take_append_drop _ _).symm, by rw [List.length_take]; omega⟩
        rw [List.length_append] at hl
        refine zz ?_
        refine zc rfl (insort_spec (P := []) (X := A) (Q := B) hs hTb hD' hO' rfl (by rw [List.length_nil, lA]) (by rw [List.length_nil]; omega) (by omega)) ?_
        rintro _ w ⟨Z, pz, sz, hs⟩
        refine zz ?_
        exact MC.again 1 zi ⟨by omega, by omega, Z, [], B, (pz.append_right B).trans hp, by rw [pz.length_eq, lA]; rfl, rfl, sz, Srt.nil, hs⟩ (by decide)
      · obtain rfl : k = 1 := by omega
        obtain rfl : Z2 = [] := List.eq_nil_of_length_eq_zero (by omega)
        rw [List.nil_append] at hs hD' hO' hp
        rw [List.length_nil, Nat.zero_add] at hl
        obtain ⟨A, B, rfl, lA⟩ : ∃ A B, R = A ++ B ∧ A.length = 20 := ⟨R.take 20, R.drop 20, (List.take_append_drop _ _).symm, by rw [List.length_take]; omega⟩
        rw [List.length_append] at hl
        obtain rfl : B = [] := List.eq_nil_of_length_eq_zero (by omega)
        refine zz ?_
        refine zc rfl (insort_spec (P := Z1) (X := A) (Q := []) hs hTb hD' hO' (by rw [l1]; rfl) (by rw [l1, lA]; rfl) (by rw [List.length_nil]; omega) (by omega)) ?_
        rintro _ w ⟨Z, pz, sz, hs⟩
        refine zz ?_
        exact MC.again 2 zi ⟨by omega, by omega, Z1, Z, [], ((pz.append_right []).append_left Z1).trans hp, l1, by rw [pz.length_eq, lA], s1, sz, hs⟩ (by decide)
  · clear hs
    rintro k w ⟨hk, hkn, Z1, Z2, R, hp, l1, l2, s1, s2, hs⟩
    dsimp only [List.drop] at hk hkn hp l1 l2 hs ⊢
    have hl := hp.length_eq
    rw [List.length_append, List.length_append] at hl
    have hD' : DL F (Z1 ++ (Z2 ++ R)) := hD.perm hp
    have hO' := hO.of hp
    refine MC.run1 tab 1 rfl rfl True.intro ?_
    refine MC.cutAtS (σ := Unit) 1 (fun _ => [(0, true, .slice (some ⟨bd, 0, none⟩) n c), (1, true, int ((n : Nat) : Int)), (2, true, .func (.func 34) #[] #[]), (6, true, int 20)])
      (fun _ w => ∃ Z1 Z2 : List E, (Z1 ++ Z2).Perm D ∧ Z1.length = min 20 n ∧ Srt ltE Z1 ∧ Srt ltE Z2 ∧ Sat (blk bd (cellsD (Z1 ++ Z2) ++ sp) 32 :: F) w) rfl ?_ ?_
    rotate_left
    · (try dsimp only [List.drop_succ_cons, List.drop_zero, List.take_succ_cons, List.take_zero, List.cons_append, List.nil_append])
      rcases (show k = 0 ∨ k = 1 ∨ k = 2 by omega) with rfl | rfl | rfl
      · obtain rfl : Z1 = [] := List.eq_nil_of_length_eq_zero (by omega)
        obtain rfl : Z2 = [] := List.eq_nil_of_length_eq_zero (by omega)
        rw [List.nil_append, List.nil_append] at hs hD' hO' hp
        rw [List.length_nil, Nat.zero_add, Nat.zero_add] at hl
        rw [← List.append_nil R] at hs hD' hO' hp
        refine zz ?_
        refine zc rfl (insort_spec (P := []) (X := R) (Q := []) hs hTb hD' hO' rfl (by rw [List.length_nil]; omega) (by rw [List.length_nil]; omega) (by omega)) ?_
        rintro _ w ⟨Z, pz, sz, hs⟩
        refine zz ?_
        have lz := pz.length_eq
        exact MC.meetS () zi ⟨Z, [], (pz.append_right []).trans hp, by omega, sz, Srt.nil, hs⟩
      · obtain rfl : Z2 = [] := List.eq_nil_of_length_eq_zero (by omega)
        rw [List.nil_append] at hs hD' hO' hp
        rw [List.length_nil, Nat.zero_add] at hl
        rw [← List.append_nil R] at hs hD' hO' hp
        refine zz ?_
        refine zc rfl (insort_spec (P := Z1) (X := R) (Q := []) hs hTb hD' hO' (by rw [l1]; rfl) (by omega) (by rw [List.length_nil]; omega) (by omega)) ?_
        rintro _ w ⟨Z, pz, sz, hs⟩
        refine zz ?_
        rw [List.append_nil] at hs hp
        exact MC.meetS () zi ⟨Z1, Z, (pz.append_left Z1).trans hp, by omega, s1, sz, hs⟩
      · obtain rfl : R = [] := List.eq_nil_of_length_eq_zero (by omega)
        rw [← List.append_assoc] at hs hD' hO' hp
        have l12 : (Z1 ++ Z2).length = 40 := by rw [List.length_append, l1, l2]; rfl
        rw [List.length_nil] at hl
        refine zz ?_
        refine zc rfl (insort_spec (P := Z1 ++ Z2) (X := []) (Q := []) hs hTb hD' hO' (by rw [l12]) (by rw [l12, List.length_nil]; omega) (by rw [l12, List.length_nil]; omega) (by omega)) ?_
        rintro _ w ⟨Z, pz, sz, hs⟩
        refine zz ?_
        obtain rfl : Z = [] := List.eq_nil_of_length_eq_zero pz.length_eq
        rw [List.append_nil] at hs hp
        rw [List.append_nil] at hs
        exact MC.meetS () zi ⟨Z1, Z2, hp, by omega, s1, s2, hs⟩
    clear hs hp l1 l2 s1 s2 hD' hO' hl
    rintro _ w ⟨Z1, Z2, hp, l1, s1, s2, hs⟩
    dsimp only [List.drop] at hs ⊢
    have hl := hp.length_eq
    rw [List.length_append] at hl
    have hD' : DL F (Z1 ++ Z2) := hD.perm hp
    have hO' := hO.of hp
    refine zz ?_
    refine MC.loop (σ := Nat) (fun k => [(0, true, .slice (some ⟨bd, 0, none⟩) n c), (1, true, int ((n : Nat) : Int)), (2, true, .func (.func 34) #[] #[]), (6, true, int ((20 * (k + 1) : Nat) : Int))])
      (fun k w => k ≤ 1 ∧ ((k = 0 ∧ Sat (blk bd (cellsD (Z1 ++ Z2) ++ sp) 32 :: F) w) ∨ (k = 1 ∧ ∃ Z : List E, Z.Perm (Z1 ++ Z2) ∧ Srt ltE Z ∧ Sat (blk bd (cellsD Z ++ sp) 32 :: F) w)))
      (fun k => 1 - k) 0 zi ⟨Nat.zero_le _, .inl ⟨rfl, hs⟩⟩ ?_
    clear hs
    rintro k w ⟨hk, hs⟩
    dsimp only [] at hk hs ⊢
    rcases hs with ⟨rfl, hs⟩ | ⟨rfl, Z, pz, sz, hs⟩
    · rcases Nat.lt_or_ge 20 n with hlt | hge
      · refine zz ?_
        have l20 : Z1.length = 20 := by omega
        rw [← List.append_nil (Z1 ++ Z2), List.append_assoc] at hs hD' hO'
        refine MC.loop (σ := Nat) (fun j => [(0, true, .slice (some ⟨bd, 0, none⟩) n c), (1, true, int ((n : Nat) : Int)), (2, true, .func (.func 34) #[] #[]), (6, true, int 20), (7, true, int ((40 * j : Nat) : Int)), (8, true, int ((40 * (j + 1) : Nat) : Int))])
          (fun j w => j ≤ 1 ∧ ((j = 0 ∧ Sat (blk bd (cellsD (Z1 ++ (Z2 ++ [])) ++ sp) 32 :: F) w) ∨ (j = 1 ∧ ∃ Z : List E, Z.Perm (Z1 ++ Z2) ∧ Srt ltE Z ∧ Sat (blk bd (cellsD Z ++ sp) 32 :: F) w)))
          (fun j => 1 - j) 0 zi ⟨Nat.zero_le _, .inl ⟨rfl, hs⟩⟩ ?_
        clear hs
        rintro j w ⟨hj, hs⟩
        dsimp only [] at hj hs ⊢
        rcases hs with ⟨rfl, hs⟩ | ⟨rfl, Z, pz, sz, hs⟩
        · rcases Nat.lt_or_ge n 40 with hlt4 | hge4
          · refine zz ?_
            refine zc rfl (symm_spec (P := []) (X := Z1) (Y := Z2) (Q := []) hTb (by omega) _ (Nat.lt_succ_self _) hs hD' hO' (by omega) (by omega) s1 s2 rfl (by rw [l20]; rfl) (by rw [List.length_nil]; omega) (by rw [List.length_nil]; omega)) ?_
            rintro _ w ⟨Z, pz, sz, hs⟩
            rw [List.append_nil] at hs
            refine zz ?_
            exact MC.again 1 zi ⟨Nat.le_refl _, .inr ⟨rfl, Z, pz, sz, hs⟩⟩ (by decide)
          · refine zz ?_
            refine zc rfl (symm_spec (P := []) (X := Z1) (Y := Z2) (Q := []) hTb (by omega) _ (Nat.lt_succ_self _) hs hD' hO' (by omega) (by omega) s1 s2 rfl (by rw [l20]; rfl) (by rw [List.length_nil]; omega) (by rw [List.length_nil]; omega)) ?_
            rintro _ w ⟨Z, pz, sz, hs⟩
            rw [List.append_nil] at hs
            refine zz ?_
            exact MC.again 1 zi ⟨Nat.le_refl _, .inr ⟨rfl, Z, pz, sz, hs⟩⟩ (by decide)
        · refine zz ?_
          exact MC.again 1 zi ⟨Nat.le_refl _, .inr ⟨rfl, Z, pz, sz, hs⟩⟩ (by decide)
      · obtain rfl : Z2 = [] := List.eq_nil_of_length_eq_zero (by omega)
        rw [List.append_nil] at hs hp
        refine zz ?_
        exact MC.end_ rfl ⟨Z1, hp, s1, hs⟩
    · refine zz ?_
      exact MC.end_ rfl ⟨Z, pz.trans hp, sz, hs⟩
theorem sortf_spec {F : List Assn} {D : List E} {bd n c : Nat} {sp : List Value} {w : World} (hs : Sat (blk bd (cellsD D ++ sp) 32 :: F) w) (hTb : Tabs F) (hD : DL F D) (hO : okE D) (hn : D.length = n) (hN : n ≤ 40) :
    Ret Tryz.prog 33 [.slice (some ⟨bd, 0, none⟩) n c, .func (.func 34) #[] #[]] w fun _ w' => ∃ Z : List E, Z.Perm D ∧ Srt ltE Z ∧ Sat (blk bd (cellsD Z ++ sp) 32 :: F) w' := by
  refine Ret.enter [(true, .slice (some ⟨bd, 0, none⟩) n c), (true, .func (.func 34) #[] #[])] _ Tryz.func33 rfl Tryz.ntmps33 rfl ?_
  refine zz ?_
  refine zc rfl (stable_spec hs hTb hD hO hn hN) ?_
  rintro _ w ⟨Z, pz, sz, hs⟩
  refine zz ?_
  exact MC.end_ rfl ⟨Z, pz, sz, hs⟩
end Go.Proofs.YtkccjgllanpebaaGreatDoor

namespace Go.Proofs.YtkccjgllanpebaaGreatDoor
open Go Go.Sl Go.Tr
attribute [local irreducible] LooksAt
theorem while_eq {p : Bs → Bool} : ∀ {K : List Bs} {i : Nat}, i ≤ K.length → (∀ (j : Nat) (h : j < K.length), j < i → p K[j] = true) → (∀ (h : i < K.length), p K[i] = false) → (K.takeWhile p).length = i
  | [], i, hi, _, _ => by simp at hi; subst hi; rfl
  | a :: K, 0, _, _, h => by
    have := h (by simp)
    rw [List.takeWhile_cons, if_neg (by simpa using this)]; rfl
  | a :: K, i + 1, hi, h1, h2 => by
    have h0 := h1 0 (by simp) (by omega)
    rw [List.takeWhile_cons, if_pos (by simpa using h0), List.length_cons, while_eq (by simpa using hi) (fun j hj hji => h1 (j + 1) (by simpa using hj) (by omega)) (fun h => h2 (by simpa using h))]
theorem nfind_spec {F : List Assn} {y : NdV} {n : Nd} {vk : Value} {key : Bs} {w : World} (hs : Sat F w) (hr : NdR F y n) (hkey : RdS F 1 vk key.length (bytesV key)) :
    Ret Tryz.prog 58 [y.val n, vk] w fun v w' => v = .tuple #[int (((n.find key).1 : Nat) : Int), bool (n.find key).2] ∧ Sat F w' := by
  have hr0 := hr
  obtain ⟨sk, sv, si, rk, rv⟩ := y
  obtain ⟨hk, hv, hc, ⟨f1, f2, f3⟩, hks, hvs⟩ := hr
  dsimp only [] at hk hv hc f1 f2 f3 hks hvs
  obtain ⟨pk, ck, rfl, hck, _⟩ := hk.shape
  obtain ⟨pv, cv, rfl, hcv, _⟩ := hv.shape
  obtain ⟨pi, ci, rfl, hci, _⟩ := hc.shape
  obtain ⟨qk, qc, rfl, _, _⟩ := hkey.shape
  refine Ret.enter [(true, .agg [bool n.leaf, .slice pk n.keys.length ck, .slice pv n.vals.length cv, .slice pi n.kids.length ci].toArray), (true, .slice qk key.length qc)] _ Tryz.func58 rfl Tryz.ntmps58 rfl ?_
  refine zz ?_
  refine MC.does true (does_box hs rfl rfl) rfl ?_; rintro _ w ⟨b2, rfl, hs⟩
  refine zz ?_
  refine MC.cutAtS 2 (σ := Unit) (fun _ => [(1, true, .slice qk key.length qc), (2, true, ptr b2), (6, true, int ((below n.keys key : Nat) : Int))]) (fun _ w => Sat (blk b2 [bool n.leaf, .slice pk n.keys.length ck, .slice pv n.vals.length cv, .slice pi n.kids.length ci] 69 :: F) w) rfl ?_ ?_
  rotate_left
  · refine MC.loop (σ := Nat) (fun i => [(1, true, .slice qk key.length qc), (2, true, ptr b2), (6, true, int ((i : Nat) : Int))])
      (fun i w => i ≤ n.keys.length ∧ (∀ (j : Nat) (h : j < n.keys.length), j < i → ltB n.keys[j] key = true) ∧ Sat (blk b2 [bool n.leaf, .slice pk n.keys.length ck, .slice pv n.vals.length cv, .slice pi n.kids.length ci] 69 :: F) w) (fun i => n.keys.length - i) 0 zi ⟨Nat.zero_le _, fun j _ h => by omega, hs⟩ ?_
    clear hs
    rintro i w ⟨hi, hlt, hs⟩
    dsimp only [] at hi hlt hs ⊢
    rcases Nat.lt_or_ge i n.keys.length with hil | hge
    · obtain ⟨b, o, cc, q, c2, hv1, hg, hrd, hk1⟩ := hk.get hil
      cases hv1
      have hj : rk[((i : Nat) : Int).toNat * 1]? = some (.slice q n.keys[i].length c2) := by rw [Int.toNat_natCast, Nat.mul_one]; exact hg
      refine zz ?_
      refine MC.la true (la_load1_rd hrd hs (j := ((i : Nat) : Int).toNat * 1) rfl hj) rfl ?_
      refine zz ?_
      have hcmp := bcompare_spec hs hk1.up hkey.up
      refine zc rfl (hcmp) ?_
      rintro _ w ⟨rfl, rfl⟩
      have hcl := cmp_lt n.keys[i] key
      have hcb := cmp_bd n.keys[i] key
      by_cases h4 : Lib.compareBytes n.keys[i] key < 0
      · refine zz ?_
        exact MC.again (i + 1) zi ⟨hil, fun j h hj => by
          rcases Nat.lt_or_ge j i with h' | h'
          · exact hlt j h h'
          · obtain rfl : j = i := by omega
            exact hcl.1 h4, hs⟩ (by omega)
      · refine zz ?_
        have hb : below n.keys key = i := while_eq (p := fun k => ltB k key) hi hlt (fun h => Bool.eq_false_iff.2 fun h5 => h4 (hcl.2 h5))
        exact MC.meetS () ⟨rfl, rfl, int_eq (by rw [hb]), trivial⟩ hs
    · obtain rfl : i = n.keys.length := by omega
      refine zz ?_
      have hb : below n.keys key = n.keys.length := while_eq (p := fun k => ltB k key) hi hlt (fun h => absurd h (by omega))
      exact MC.meetS () ⟨rfl, rfl, int_eq (by rw [hb]), trivial⟩ hs
  · rintro _ w hs
    (try dsimp only [List.drop_succ_cons, List.drop_zero, List.take_succ_cons, List.take_zero, List.cons_append, List.nil_append])
    have hbl : below n.keys key ≤ n.keys.length := (List.takeWhile_sublist _).length_le
    have hfl : n.leaf = true → n.find key = (below n.keys key, decide (n.keys[below n.keys key]? = some key)) := fun h => by unfold Nd.find; rw [if_pos h]
    have hfi : n.leaf = false → n.find key = (below n.keys key + ((n.keys.drop (below n.keys key)).takeWhile fun k => decide (k = key)).length, false) := fun h => by unfold Nd.find; rw [if_neg (by rw [h]; decide)]
    generalize below n.keys key = i at *
    dsimp only [List.drop]
    refine zz ?_
    refine MC.cutAtS 1 (σ := Unit) (fun _ => [(1, true, .slice qk key.length qc), (2, true, ptr b2), (6, true, int ((i : Nat) : Int)), (7, true, bool (decide (n.keys[i]? = some key)))]) (fun _ w => Sat (blk b2 [bool n.leaf, .slice pk n.keys.length ck, .slice pv n.vals.length cv, .slice pi n.kids.length ci] 69 :: F) w) rfl ?_ ?_
    rotate_left
    · rcases Nat.lt_or_ge i n.keys.length with hil | hge
      · obtain ⟨b, o, cc, q, c2, hv1, hg, hrd, hk1⟩ := hk.get hil
        cases hv1
        have hj : rk[((i : Nat) : Int).toNat * 1]? = some (.slice q n.keys[i].length c2) := by rw [Int.toNat_natCast, Nat.mul_one]; exact hg
        refine zz ?_
        refine MC.la true (la_load1_rd hrd hs (j := ((i : Nat) : Int).toNat * 1) rfl hj) rfl ?_
        refine zz ?_
        have heq := equal_spec hs hk1.up hkey.up
        refine zc rfl (heq) ?_
        rintro _ w ⟨rfl, rfl⟩
        refine zz ?_
        have e1 : decide (n.keys[i] = key) = decide (n.keys[i]? = some key) := by rw [List.getElem?_eq_getElem hil]; simp
        rw [e1]
        exact MC.meetS () zi hs
      · refine zz ?_
        have e1 : false = decide (n.keys[i]? = some key) := by rw [List.getElem?_eq_none (by omega)]; simp
        rw [← e1]
        exact MC.meetS () zi hs
    · rintro _ w hs
      (try dsimp only [List.drop_succ_cons, List.drop_zero, List.take_succ_cons, List.take_zero, List.cons_append, List.nil_append])
      refine zz ?_
      refine MC.condB rfl (fun hb => ?_) (fun hb => ?_)
      · refine zz ?_
        refine MC.ret rfl ?_
        rw [hfl hb]
        exact ⟨rfl, hs.tail⟩
      · rw [hfi hb]
        clear hfl hfi
        have hwl : ((n.keys.drop i).takeWhile fun k => decide (k = key)).length ≤ n.keys.length - i := by
          have := (List.takeWhile_sublist (fun k => decide (k = key)) (l := n.keys.drop i)).length_le
          rw [List.length_drop] at this; exact this
        refine zz ?_
        refine MC.loop (σ := Nat) (fun j => [(1, true, .slice qk key.length qc), (2, true, ptr b2), (6, true, int ((i + j : Nat) : Int))])
          (fun j w => i + j ≤ n.keys.length ∧ (∀ (m : Nat) (h : m < (n.keys.drop i).length), m < j → decide ((n.keys.drop i)[m] = key) = true) ∧ Sat (blk b2 [bool n.leaf, .slice pk n.keys.length ck, .slice pv n.vals.length cv, .slice pi n.kids.length ci] 69 :: F) w) (fun j => n.keys.length - (i + j)) 0 zi ⟨hbl, fun m _ h => by omega, hs⟩ ?_
        clear hs
        rintro j w ⟨hi, hlt, hs⟩
        dsimp only [] at hi hlt hs ⊢
        rcases Nat.lt_or_ge (i + j) n.keys.length with hil | hge
        · obtain ⟨b, o, cc, q, c2, hv1, hg, hrd, hk1⟩ := hk.get hil
          cases hv1
          have hj : rk[((i + j : Nat) : Int).toNat * 1]? = some (.slice q n.keys[i + j].length c2) := by rw [Int.toNat_natCast, Nat.mul_one]; exact hg
          refine zz ?_
          refine MC.la true (la_load1_rd hrd hs (j := ((i + j : Nat) : Int).toNat * 1) rfl hj) rfl ?_
          refine zz ?_
          have heq := equal_spec hs hk1.up hkey.up
          refine zc rfl (heq) ?_
          rintro _ w ⟨rfl, rfl⟩
          by_cases h4 : n.keys[i + j] = key
          · rw [decide_eq_true h4]
            refine zz ?_
            exact MC.again (j + 1) zi ⟨by omega, fun m h hm => by
              rcases Nat.lt_or_ge m j with h' | h'
              · exact hlt m h h'
              · obtain rfl : m = j := by omega
                rw [List.getElem_drop]; exact decide_eq_true h4, hs⟩ (by omega)
          · rw [decide_eq_false h4]
            refine zz ?_
            refine MC.ret rfl ?_
            have hb : ((n.keys.drop i).takeWhile fun k => decide (k = key)).length = j := while_eq (p := fun k => decide (k = key)) (by rw [List.length_drop]; omega) hlt (fun h => by rw [List.getElem_drop]; exact decide_eq_false h4)
            rw [hb]
            exact ⟨rfl, hs.tail⟩
        · refine zz ?_
          refine MC.ret rfl ?_
          have hb : ((n.keys.drop i).takeWhile fun k => decide (k = key)).length = j := while_eq (p := fun k => decide (k = key)) (by rw [List.length_drop]; omega) hlt (fun h => by rw [List.length_drop] at h; omega)
          rw [hb]
          exact ⟨rfl, hs.tail⟩
end Go.Proofs.YtkccjgllanpebaaGreatDoor

namespace Go.Proofs.YtkccjgllanpebaaGreatDoor
open Go Go.Sl Go.Tr Go.Kv Go.Ms
attribute [local irreducible] LooksAt
theorem insort0_spec {F : List Assn} {c : Nat} {w : World} (hs : Sat F w) : Ret Tryz.prog 114 [.slice none 0 c, int 0, int 0, .func (.func 34) #[] #[]] w fun _ w' => Sat F w' := by
  refine Ret.enter [(true, .slice none 0 c), (true, int 0), (true, int 0), (true, .func (.func 34) #[] #[])] _ Tryz.func114 rfl Tryz.ntmps114 rfl ?_
  refine zz ?_
  refine MC.loop (σ := Unit) (fun _ => [(2, true, int 0), (8, true, int 1)]) (fun _ w => Sat F w) (fun _ => 0) () zi hs ?_
  clear hs
  rintro _ w hs
  dsimp only [] at hs ⊢
  refine zz ?_
  exact MC.end_ rfl hs
theorem stable0_spec {F : List Assn} {c : Nat} {w : World} (hs : Sat F w) : Ret Tryz.prog 71 [.slice none 0 c, int 0, .func (.func 34) #[] #[]] w fun _ w' => Sat F w' := by
  refine Ret.enter [(true, .slice none 0 c), (true, int 0), (true, .func (.func 34) #[] #[])] _ Tryz.func71 rfl Tryz.ntmps71 rfl ?_
  refine zz ?_
  refine MC.loop (σ := Unit) (fun _ => [(0, true, .slice none 0 c), (1, true, int 0), (2, true, .func (.func 34) #[] #[]), (6, true, int 20), (7, true, int 0), (8, true, int 20)]) (fun _ w => Sat F w) (fun _ => 0) () zi hs ?_
  clear hs
  rintro _ w hs
  dsimp only [] at hs ⊢
  refine zz ?_
  refine zc rfl (insort0_spec hs) ?_
  intro _ w hs
  refine zz ?_
  refine MC.loop (σ := Unit) (fun _ => [(1, true, int 0), (6, true, int 20)]) (fun _ w => Sat F w) (fun _ => 0) () zi hs ?_
  clear hs
  rintro _ w hs
  dsimp only [] at hs ⊢
  refine zz ?_
  exact MC.end_ rfl hs
theorem sortf0_spec {F : List Assn} {c : Nat} {w : World} (hs : Sat F w) : Ret Tryz.prog 33 [.slice none 0 c, .func (.func 34) #[] #[]] w fun _ w' => Sat F w' := by
  refine Ret.enter [(true, .slice none 0 c), (true, .func (.func 34) #[] #[])] _ Tryz.func33 rfl Tryz.ntmps33 rfl ?_
  refine zz ?_
  refine zc rfl (stable0_spec hs) ?_
  intro _ w hs
  refine zz ?_
  exact MC.end_ rfl hs
theorem okE_of {l : List V} {D : List E} (h : D.map (·.1) = l) (hz : ∀ v ∈ l, sizeV v ≤ 1000 ∧ rightV v = 0) : okE D := fun p hp => by
  have := hz p.1 (by rw [← h]; exact List.mem_map_of_mem hp)
  exact ⟨this.1, (right_ok this.2).1⟩
set_option maxHeartbeats 4000000 in
theorem sort_spec {F : List Assn} {l : List V} {rows : List (List Value)} {q : Option Addr} {c : Nat} {w : World} (hs : Sat F w) (hTb : Tabs F) (hl : RdS F 6 (.slice q l.length c) l.length rows.flatten) (hvl : VL F l rows) (hn : l.length ≤ 40) (hz : ∀ v ∈ l, sizeV v ≤ 1000 ∧ rightV v = 0) :
    Ret Tryz.prog 10 [.slice q l.length c] w fun u w' => ∃ (D : List E) (G : List Assn) (vx : Value), u = .tuple #[vx, int 0] ∧ (D.map (·.1)).Perm l ∧ Srt ltE D ∧ DL G D ∧ Sat (sl vx 32 6 l.length (cellsD D) :: (G ++ F)) w' := by
  refine Ret.enter [(true, .slice q l.length c)] _ Tryz.func10 rfl Tryz.ntmps10 rfl ?_
  refine zz ?_
  have hs := hs.sl_nil 32 6
  refine MC.cutAtS (σ := Value) 2 (fun vx => [(4, true, vx)]) (fun vx w => ∃ (H : List Assn) (D : List E), D.map (·.1) = l ∧ DL H D ∧ Sat (sl vx 32 6 l.length (cellsD D) :: (H ++ F)) w) rfl ?_ ?_
  rotate_left
  · (try dsimp only [List.drop_succ_cons, List.drop_zero, List.take_succ_cons, List.take_zero, List.cons_append, List.nil_append])
    refine MC.loop (σ := Nat × Value) (fun s => [(4, true, s.2), (8, true, .slice q l.length c), (9, true, int ((l.length : Nat) : Int)), (10, true, int ((s.1 : Nat) : Int))])
      (fun s w => s.1 ≤ l.length ∧ ∃ (H : List Assn) (D : List E), D.map (·.1) = l.take s.1 ∧ DL H D ∧ Sat (sl s.2 32 6 s.1 (cellsD D) :: (H ++ F)) w) (fun s => l.length - s.1) (0, _) zi ⟨Nat.zero_le _, [], [], rfl, (fun x h => by cases h), hs⟩ ?_
    clear hs
    rintro ⟨i, vx⟩ w ⟨hi, H, D, hDm, hD, hs⟩
    dsimp only [] at hi hDm hs ⊢
    obtain ⟨_, qx, cx, rfl, hcx⟩ := hs.sl_len
    rcases Nat.lt_or_ge i l.length with hlt | hge
    · obtain ⟨bl, ol, rfl, hrl⟩ := hl.at_ (by omega)
      have hri : i < rows.length := by rw [hvl.len]; exact hlt
      have hvr := hvl.row i l[i] rows[i] (List.getElem?_eq_getElem hlt) (List.getElem?_eq_getElem hri)
      have hr6 := hvr.len
      have hat := flat_take hvl.six hri
      have hzi := hz _ (List.getElem_mem hlt)
      have htk : l.take (i + 1) = l.take i ++ [l[i]] := take_snoc hlt
      obtain ⟨x, hx⟩ : ∃ x, l[i] = x := ⟨_, rfl⟩
      obtain ⟨r, hr⟩ : ∃ r, rows[i] = r := ⟨_, rfl⟩
      rw [hx] at hvr hzi htk
      rw [hr] at hvr hr6 hat
      refine zz ?_
      refine MC.la true (la_loadV_rd hrl hs (j := ((i : Nat) : Int).toNat * 6) (vs := r) rfl hat hr6 rfl) rfl ?_
      refine MC.does true (does_alloc hs) rfl ?_; rintro _ w ⟨b5, rfl, hs⟩
      refine zz ?_
      refine MC.does true (does_store (vs := r) hs rfl rfl hvr.cells hvr.len hvr.ones (by simp)) rfl ?_; intro _ w hs; rw [splice_all (by rw [hr6]; rfl)] at hs
      refine zz ?_
      refine MC.la true (la_loadV hs rfl (vs := r) (by rw [List.drop_zero, List.take_of_length_le (by omega)]) hr6 rfl) rfl ?_
      refine zz ?_
      refine zc rfl (vright_spec hs hTb.up hvr.up hzi.1) ?_
      rintro _ w ⟨rfl, hs⟩
      rw [hzi.2]
      refine zz ?_
      refine MC.la true (la_loadV hs rfl (vs := r) (by rw [List.drop_zero, List.take_of_length_le (by omega)]) hr6 rfl) rfl ?_
      refine zz ?_
      refine zc rfl (copy_spec _ hs hvr.up hzi.1) ?_
      rintro _ w ⟨r', G, rfl, hG, hs⟩
      have hG0 := hG
      obtain ⟨k1, m1, e1, t1, l1, ks1⟩ := x
      obtain ⟨ql2, qk2, cl2, ck2, rws2, rfl, -⟩ := hG.open_
      have hs : Sat (blk b5 r 32 :: sl (.slice qx i cx) 32 6 i (cellsD D) :: ((G ++ H) ++ F)) w := by
        refine Sat.perm ?_ hs
        rw [List.append_assoc]
        exact List.perm_append_comm_assoc G [_, _] (H ++ F)
      refine zz ?_
      refine MC.does true (does_buildSlice (vs := [(0, .agg #[int k1, int m1, int e1, str t1, .slice ql2 l1.length cl2, .slice qk2 ks1.length ck2])]) (ls := [(0, [int k1, int m1, int e1, str t1, .slice ql2 l1.length cl2, .slice qk2 ks1.length ck2])]) (out := [int k1, int m1, int e1, str t1, .slice ql2 l1.length cl2, .slice qk2 ks1.length ck2]) hs rfl rfl ⟨⟨_, rfl, by simp [rep]⟩, trivial⟩ rfl rfl) rfl ?_
      rintro _ w ⟨b8, rfl, hs⟩
      refine zz ?_
      have hs := Sat.sl_mk (size := 6) (n := 1) (c := 1) (xs := [int k1, int m1, int e1, str t1, .slice ql2 l1.length cl2, .slice qk2 ks1.length ck2]) (spare := []) hs (Nat.le_refl _) rfl rfl
      have hs := hs.pickF 3 [2, 0] rfl rfl
      have hr8 := RdS.of_sl hs.tail
      refine MC.does true (does_append hs rfl rfl (RdS.src hr8 (fun u hu => by simp only [List.mem_cons, List.not_mem_nil, or_false] at hu; rcases hu with rfl | rfl | rfl | rfl | rfl | rfl <;> rfl)) (by omega) (by omega)) rfl ?_
      intro vn w hs
      refine zz ?_
      have hN : DL (G ++ H) (D ++ [((⟨k1, m1, e1, t1, l1, ks1⟩ : V), [int k1, int m1, int e1, str t1, .slice ql2 l1.length cl2, .slice qk2 ks1.length ck2])]) := fun p hp => by
        rcases List.mem_append.1 hp with hp | hp
        · exact @VR.up _ _ (suf_app G H) _ _ (hD p hp)
        · rw [List.mem_singleton.1 hp]; exact @VR.up _ _ (suf_left G H) _ _ hG0
      have hs := hs.pickF 2 [0] rfl rfl
      refine MC.again (i + 1, vn) zi ⟨hlt, G ++ H, _, ?_, hN, ?_⟩ (by show l.length - (i + 1) < l.length - i; omega)
      · show _ = l.take (i + 1)
        rw [List.map_append, hDm, htk]; rfl
      · rw [cellsD_app]; show Sat (sl vn _ 6 (i + 1) (cellsD D ++ _) :: _) w
        exact hs
    · obtain rfl : i = l.length := by omega
      rw [List.take_length] at hDm
      refine zz ?_
      exact MC.meetS _ zi ⟨H, D, hDm, hD, hs⟩
  · clear hs
    rintro vx w ⟨H, D, hDm, hD, hs⟩
    dsimp only [List.drop] at hs ⊢
    have lD : D.length = l.length := by rw [← hDm, List.length_map]
    have hO := okE_of hDm hz
    rcases hs.sl_cases with ⟨rfl, h0, h1, h2⟩ | ⟨b, c', sp, rfl, g1, g2, g3, hs⟩
    · obtain rfl : l = [] := List.eq_nil_of_length_eq_zero h0
      obtain rfl : D = [] := List.eq_nil_of_length_eq_zero lD
      refine zz ?_
      refine zc rfl (sortf0_spec hs) ?_
      intro _ w hs
      refine zz ?_
      refine MC.ret rfl ?_
      exact ⟨[], H, _, rfl, List.Perm.refl _, Srt.nil, hD, hs⟩
    · refine zz ?_
      refine zc rfl (sortf_spec hs hTb.up (@DL.up _ _ (suf_left H F) _ hD) hO lD hn) ?_
      rintro _ w ⟨Z, pz, sz, hs⟩
      refine zz ?_
      have hDZ := hD.perm pz
      have lZ : (cellsD Z).length = l.length * 6 := by rw [hDZ.len, pz.length_eq, lD]
      refine MC.ret rfl ?_
      exact ⟨Z, H, _, rfl, by rw [← hDm]; exact pz.map _, sz, hDZ, hs.sl_mk g1 lZ (by omega)⟩
end Go.Proofs.YtkccjgllanpebaaGreatDoor

namespace Go.Proofs.YtkccjgllanpebaaGreatDoor
open Go Go.Sl Go.Tr
attribute [local irreducible] LooksAt
theorem Rows.one {F : List Assn} {v : Value} {rs : List Value} {ks : List Bs} (h : Rows F v rs ks) : ∀ u ∈ rs, u.oneCell' = true := fun u hu => by
  obtain ⟨i, hi, rfl⟩ := List.mem_iff_getElem.1 hu
  obtain ⟨p, c, _, _, hl⟩ := h.shape
  obtain ⟨u, h1, h2⟩ := h.at_ i (by omega)
  rw [List.getElem?_eq_getElem hi] at h1
  cases h1
  obtain ⟨q, c, e, _, _⟩ := h2.shape
  rw [e]; rfl
def Inp (pool : List (Value × Bs)) (rs : List Value) (ks : List Bs) : Prop := rs.length = ks.length ∧ ∀ (i : Nat) (k : Bs), ks[i]? = some k → ∃ u, rs[i]? = some u ∧ (u, k) ∈ pool
theorem own_spec {F : List Assn} {v : Value} {rs : List Value} {ks : List Bs} {w : World} (hs : Sat F w) (hr : Rows F v rs ks) (hn : ks.length ≤ 1000) (hk : ∀ k ∈ ks, k.length ≤ 1000) :
    Ret Tryz.prog 133 [v] w fun u w' => ∃ rs' pool, Inp pool rs' ks ∧ Sat (bods 5 pool :: sl u 33 1 ks.length rs' :: F) w' := by
  obtain ⟨p, c, rfl, hc, hl⟩ := hr.shape
  refine Ret.enter [(true, .slice p ks.length c)] _ Tryz.func133 rfl Tryz.ntmps133 rfl ?_
  refine zz ?_
  have hs := bods_nil (t := 5) (hs.sl_nil 33 1)
  refine MC.loop (σ := Nat × Value × List Value × List (Value × Bs)) (fun x => [(3, true, x.2.1), (6, true, .slice p ks.length c), (7, true, int ((ks.length : Nat) : Int)), (8, true, int ((x.1 : Nat) : Int))])
    (fun x w => x.1 ≤ ks.length ∧ Inp x.2.2.2 x.2.2.1 (ks.take x.1) ∧ Sat (bods 5 x.2.2.2 :: sl x.2.1 33 1 x.1 x.2.2.1 :: F) w) (fun x => ks.length - x.1) (0, .slice none 0 0, [], []) zi ⟨Nat.zero_le _, ⟨rfl, fun i k h => (by cases h)⟩, hs⟩ ?_
  clear hs
  rintro ⟨i, vo, ro, pool⟩ w ⟨hi, hin, hs⟩
  dsimp only [] at hi hin hs ⊢
  obtain ⟨_, qo, co, rfl, hco⟩ := hs.tail.sl_len
  rcases Nat.lt_or_ge i ks.length with hlt | hge
  · obtain ⟨b, o, cc, q, c2, hv1, hg, hrd, hk1⟩ := hr.get hlt
    cases hv1
    have hj : rs[((i : Nat) : Int).toNat * 1]? = some (.slice q ks[i].length c2) := by rw [Int.toNat_natCast, Nat.mul_one]; exact hg
    have hkl := hk _ (List.getElem_mem hlt)
    refine zz ?_
    refine MC.la true (la_load1_rd hrd hs (j := ((i : Nat) : Int).toNat * 1) rfl hj) rfl ?_
    refine zz ?_
    have hcl := bclone_spec hs hk1.up (by omega)
    refine zc rfl (hcl) ?_
    intro vb w hs
    obtain ⟨_, qb, cb, rfl, _⟩ := hs.sl_len
    refine zz ?_
    refine MC.does true (does_buildL hs rfl rfl rfl (all1 rfl) rfl) rfl ?_; rintro _ w ⟨bt, rfl, hs⟩
    refine MC.does true (does_append hs rfl rfl (src_at rfl (all1 rfl)) (by omega) (by omega)) rfl ?_
    intro vo2 w hs
    have hs := (bods_add rfl hs.tail)
    refine zz ?_
    refine MC.again (i + 1, vo2, ro ++ [Value.slice qb ks[i].length cb], pool ++ [(Value.slice qb ks[i].length cb, ks[i])]) zi ⟨hlt, ?_, hs⟩ (by show ks.length - (i + 1) < ks.length - i; omega)
    dsimp only []
    rw [List.take_succ_eq_append_getElem hlt]
    exact ⟨by rw [List.length_append, List.length_append, hin.1]; rfl, pool_snoc hin.1 hin.2⟩
  · obtain rfl : i = ks.length := by omega
    refine zz ?_
    refine MC.ret rfl ?_
    rw [List.take_length] at hin
    exact ⟨ro, pool, hin, hs⟩
end Go.Proofs.YtkccjgllanpebaaGreatDoor

namespace Go.Proofs.YtkccjgllanpebaaGreatDoor
open Go Go.Sl Go.Tr Go.Kv Go.Ms
attribute [local irreducible] LooksAt
abbrev rdr (br : Nat) (q : Option Addr) (n c at' : Nat) : Assn := blk br [.slice q n c, int ((at' : Nat) : Int)] 88
theorem next_spec {F : List Assn} {br n c i : Nat} {q : Option Addr} {b pre rest : Bs} {x : UInt8} {w : World} (hs : Sat (rdr br q n c i :: F) w) (hb : RdS F 1 (.slice q n c) n (bytesV b)) (he : b = pre ++ x :: rest) (hi : pre.length = i) (hn : b.length = n) (hN : n ≤ 100000) :
    Ret Tryz.prog 77 [ptr br] w fun u w' => u = byte x ∧ Sat (rdr br q n c (i + 1) :: F) w' := by
  have hlt : i < n := by rw [← hn, he, List.length_append, List.length_cons]; omega
  obtain ⟨bb, ob, rfl, hrb⟩ := hb.at_ (by omega)
  have hx : (bytesV b)[i]? = some (byte x) := by
    rw [he, bytesV_app, List.getElem?_append_right (by rw [bytesV_length]; omega), bytesV_length, hi, Nat.sub_self]; rfl
  refine Ret.enter [(true, ptr br)] _ Tryz.func77 rfl Tryz.ntmps77 rfl ?_
  refine zz ?_
  refine MC.draw hs [0, 1, 2, 3, 4, 5, 6, 7, 8, 9] (by rfl) ?_; intro w hs
  refine zd ?_
  refine zz ?_
  refine MC.does true (does_store1 hs rfl rfl rfl (by simp)) rfl ?_; intro _ w hs
  rw [show ((i : Nat) : Int) + 1 = ((i + 1 : Nat) : Int) by omega] at *
  refine zz ?_
  refine MC.draw hs [0, 1, 2, 3, 4, 5, 6, 7, 8, 9, 10, 11] (by rfl) ?_; intro w hs
  refine zd ?_
  refine MC.laD true (la_load1_rd hrb hs (j := (((i + 1 : Nat) : Int) - 1).toNat * 1) rfl (by rw [show (((i + 1 : Nat) : Int) - 1).toNat * 1 = i by omega]; exact hx)) rfl ?_
  refine zd ?_
  refine MC.ret rfl ?_
  exact ⟨rfl, hs⟩
theorem ends_yes {F : List Assn} {br n c i : Nat} {q : Option Addr} {b pre rest : Bs} {w : World} (hs : Sat (rdr br q n c i :: F) w) (hb : RdS F 1 (.slice q n c) n (bytesV b)) (he : b = pre ++ 0 :: rest) (hi : pre.length = i) (hn : b.length = n) (hN : n ≤ 100000) :
    Ret Tryz.prog 80 [ptr br] w fun u w' => u = .bool true ∧ Sat (rdr br q n c (i + 1) :: F) w' := by
  refine Ret.enter [(true, ptr br)] _ Tryz.func80 rfl Tryz.ntmps80 rfl ?_
  refine zz ?_
  refine zc rfl (next_spec hs hb he hi hn hN) ?_
  rintro _ w ⟨rfl, hs⟩
  refine zz ?_
  refine MC.ret rfl ?_
  exact ⟨rfl, hs⟩
theorem ends_no {F : List Assn} {br n c i : Nat} {q : Option Addr} {b pre rest : Bs} {x : UInt8} {w : World} (hs : Sat (rdr br q n c i :: F) w) (hb : RdS F 1 (.slice q n c) n (bytesV b)) (he : b = pre ++ x :: rest) (hx : x ≠ 0) (hi : pre.length = i) (hn : b.length = n) (hN : n ≤ 100000) :
    Ret Tryz.prog 80 [ptr br] w fun u w' => u = .bool false ∧ Sat (rdr br q n c i :: F) w' := by
  have h0n : ((x.toNat : Nat) : Int) ≠ 0 := fun h => hx (UInt8.toNat_inj.1 (by have : (0 : UInt8).toNat = 0 := rfl; omega))
  have hlt : i < n := by rw [← hn, he, List.length_append, List.length_cons]; omega
  refine Ret.enter [(true, ptr br)] _ Tryz.func80 rfl Tryz.ntmps80 rfl ?_
  refine zz ?_
  refine zc rfl (next_spec hs hb he hi hn hN) ?_
  rintro _ w ⟨rfl, hs⟩
  refine zz ?_
  refine MC.does true (does_store1 hs rfl rfl rfl (by simp)) rfl ?_; intro _ w hs
  rw [show ((i + 1 : Nat) : Int) - 1 = ((i : Nat) : Int) by omega] at *
  refine zz ?_
  refine MC.ret rfl ?_
  exact ⟨rfl, hs⟩
set_option maxHeartbeats 4000000 in
theorem rtext_spec {F : List Assn} {br n c i : Nat} {q : Option Addr} {b pre rest s : Bs} {w : World} (hs : Sat (rdr br q n c i :: F) w) (hb : RdS F 1 (.slice q n c) n (bytesV b)) (he : b = pre ++ (textK s ++ rest)) (hi : pre.length = i) (hn : b.length = n) (hN : n ≤ 100000) :
    Ret Tryz.prog 79 [ptr br] w fun u w' => u = str s ∧ Sat (rdr br q n c (i + (textK s).length) :: F) w' := by
  refine Ret.enter [(true, ptr br)] _ Tryz.func79 rfl Tryz.ntmps79 rfl ?_
  refine zz ?_
  have hs := (hs.sl_nil 5 1).pickF 2 [1, 0] rfl rfl
  refine MC.loop (σ := Nat × Value) (fun x => [(0, true, ptr br), (3, true, x.2)])
    (fun x w => x.1 ≤ s.length ∧ Sat (rdr br q n c (i + (esc (s.take x.1)).length) :: sl x.2 5 1 (s.take x.1).length (bytesV (s.take x.1)) :: F) w) (fun x => s.length - x.1) (0, _) zi ⟨Nat.zero_le _, hs⟩ ?_
  clear hs
  rintro ⟨j, vx⟩ w ⟨hj, hs⟩
  dsimp only [] at hj hs ⊢
  obtain ⟨_, qx, cx, rfl, hcx⟩ := (hs.pickF 2 [1, 0] rfl rfl).sl_len
  have hsn : s.length ≤ 100000 := by
    have := congrArg List.length he
    rw [List.length_append, List.length_append, hn] at this
    have h2 : (textK s).length = (esc s).length + 2 := by simp [textK]
    have := esc_len s
    omega
  have hlj : (s.take j).length = j := by rw [List.length_take]; omega
  rcases Nat.lt_or_ge j s.length with hlt | hge
  · obtain ⟨x, hx⟩ : ∃ x, s[j] = x := ⟨_, rfl⟩
    have htk : s.take (j + 1) = s.take j ++ [x] := by rw [List.take_succ_eq_append_getElem hlt, hx]
    have hsp : textK s ++ rest = esc (s.take j) ++ ((if x = 0 then [0, 255] else [x]) ++ (esc (s.drop (j + 1)) ++ ([0, 1] ++ rest))) := by
      have e : s = s.take j ++ x :: s.drop (j + 1) := by rw [← hx, ← List.drop_eq_getElem_cons hlt, List.take_append_drop]
      refine (congrArg (fun s => textK s ++ rest) e).trans ?_
      simp [textK, esc, List.flatMap_append, List.flatMap_cons]
    have hel := esc_snoc (s.take j) x
    rw [← htk] at hel
    by_cases h0 : x = 0
    · rw [if_pos h0] at hsp hel
      refine zz ?_
      refine zc rfl (next_spec hs hb.up (pre := pre ++ esc (s.take j)) (x := 0) (rest := 255 :: (esc (s.drop (j + 1)) ++ ([0, 1] ++ rest))) (by rw [he, hsp]; simp) (by rw [List.length_append]; omega) hn hN) ?_
      rintro _ w ⟨rfl, hs⟩
      refine zz ?_
      refine zc rfl (next_spec hs hb.up (pre := pre ++ esc (s.take j) ++ [0]) (x := 255) (rest := esc (s.drop (j + 1)) ++ ([0, 1] ++ rest)) (by rw [he, hsp]; simp) (by rw [List.length_append, List.length_append, List.length_singleton]; omega) hn hN) ?_
      rintro _ w ⟨rfl, hs⟩
      refine zz ?_
      refine MC.does true (does_buildL hs rfl rfl rfl (all1 rfl) rfl) rfl ?_; rintro _ w ⟨b2, rfl, hs⟩
      have hs := hs.pickF 3 [2, 0, 1] rfl rfl
      refine MC.does true (does_append hs rfl rfl (src_at rfl (all1 rfl)) (by omega) (by omega)) rfl ?_
      intro va w hs
      have hs := sl_eq (l := s.take (j + 1)) (hs.pickF 3 [0, 2] rfl rfl) rfl (by rw [htk, List.length_append]; rfl) (by rw [htk, bytesV_app, h0]; rfl)
      refine zz ?_
      refine MC.again (j + 1, va) zi ⟨hlt, ?_⟩ (by show s.length - (j + 1) < s.length - j; omega)
      have e : i + (esc (s.take j)).length + 1 + 1 = i + (esc (s.take (j + 1))).length := by rw [hel, List.length_append]; rfl
      rw [e] at hs
      exact hs.pickF 2 [1, 0] rfl rfl
    · rw [if_neg h0] at hsp hel
      have h0n : ((x.toNat : Nat) : Int) ≠ 0 := fun h => h0 (UInt8.toNat_inj.1 (by have : (0 : UInt8).toNat = 0 := rfl; omega))
      refine zz ?_
      refine zc rfl (next_spec hs hb.up (pre := pre ++ esc (s.take j)) (x := x) (rest := esc (s.drop (j + 1)) ++ ([0, 1] ++ rest)) (by rw [he, hsp]; simp) (by rw [List.length_append]; omega) hn hN) ?_
      rintro _ w ⟨rfl, hs⟩
      refine zz ?_
      refine MC.does true (does_buildL hs rfl rfl rfl (all1 rfl) rfl) rfl ?_; rintro _ w ⟨b2, rfl, hs⟩
      have hs := hs.pickF 3 [2, 0, 1] rfl rfl
      refine MC.does true (does_append hs rfl rfl (src_at rfl (all1 rfl)) (by omega) (by omega)) rfl ?_
      intro va w hs
      have hs := sl_eq (l := s.take (j + 1)) (hs.pickF 3 [0, 2] rfl rfl) rfl (by rw [htk, List.length_append]; rfl) (by rw [htk, bytesV_app]; rfl)
      refine zz ?_
      refine MC.again (j + 1, va) zi ⟨hlt, ?_⟩ (by show s.length - (j + 1) < s.length - j; omega)
      have e : i + (esc (s.take j)).length + 1 = i + (esc (s.take (j + 1))).length := by rw [hel, List.length_append]; rfl
      rw [e] at hs
      exact hs.pickF 2 [1, 0] rfl rfl
  · obtain rfl : j = s.length := by omega
    rw [List.take_length] at hs ⊢
    refine zz ?_
    refine zc rfl (next_spec hs hb.up (pre := pre ++ esc s) (x := 0) (rest := 1 :: rest) (by rw [he]; simp [textK]) (by rw [List.length_append]; omega) hn hN) ?_
    rintro _ w ⟨rfl, hs⟩
    refine zz ?_
    refine zc rfl (next_spec hs hb.up (pre := pre ++ esc s ++ [0]) (x := 1) (rest := rest) (by rw [he]; simp [textK]) (by rw [List.length_append, List.length_append, List.length_singleton]; omega) hn hN) ?_
    rintro _ w ⟨rfl, hs⟩
    refine zz ?_
    have hs2 := hs.pickF 2 [1, 0] rfl rfl
    refine MC.la true (la_tostr rfl (RdS.of_sl hs2) hs2) rfl ?_
    refine zz ?_
    refine MC.ret rfl ?_
    refine ⟨rfl, ?_⟩
    have e : i + (esc s).length + 1 + 1 = i + (textK s).length := by simp [textK]; omega
    rw [e] at hs
    exact hs.pickF 2 [0] rfl rfl
end Go.Proofs.YtkccjgllanpebaaGreatDoor

namespace Go.Proofs.YtkccjgllanpebaaGreatDoor
open Go Go.Sl Go.Tr
attribute [local irreducible] LooksAt
theorem Inp.mono {pool pool' : List (Value × Bs)} {rs : List Value} {ks : List Bs} (h : Inp pool rs ks) (hp : ∀ x ∈ pool, x ∈ pool') : Inp pool' rs ks := ⟨h.1, pool_up hp h.2⟩
theorem Rows.one_key {F : List Assn} {w : World} {b : Nat} {t : TypeId} {u : Value} {k : Bs} (hk : RdS F 1 u k.length (bytesV k)) (hs : Sat (blk b [u] t :: F) w) : Rows (blk b [u] t :: F) (.slice (some ⟨b, 0, none⟩) 1 1) [u] [k] :=
  ⟨⟨_, _, rfl, Nat.le_refl _, rfl, fun _ => ⟨b, 0, rfl, Rd.of_at⟩⟩, fun i hi => by
    obtain rfl : i = 0 := by simpa using hi
    exact ⟨u, rfl, hk.up⟩⟩
end Go.Proofs.YtkccjgllanpebaaGreatDoor
