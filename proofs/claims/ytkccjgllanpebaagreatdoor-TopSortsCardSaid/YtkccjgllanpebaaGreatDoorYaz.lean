/-
  Sorting in place: merging
-/
import Derived.Test.YtkccjgllanpebaaGreatDoorYay
set_option maxHeartbeats 1000000
set_option linter.unusedVariables false
set_option linter.unusedSimpArgs false
namespace Go.Proofs.YtkccjgllanpebaaGreatDoor
open Go Go.Sl Go.Tr Go.Kv Go.Ms
attribute [local irreducible] LooksAt
theorem last_take {Y : List E} {i : Nat} {y : E} (h : (Y.take i).getLast? = some y) (hi : i ≤ Y.length) : 0 < i ∧ Y[i - 1]? = some y := by
  rw [List.getLast?_take] at h
  rcases Nat.eq_zero_or_pos i with h0 | h0
  · rw [if_pos h0] at h; cases h
  · rw [if_neg (by omega), List.getElem?_eq_getElem (by omega), Option.some_or] at h
    exact ⟨h0, by rw [List.getElem?_eq_getElem (by omega)]; exact h⟩
theorem last_all {X : List E} {x : E} (h : X.getLast? = some x) : 0 < X.length ∧ X[X.length - 1]? = some x := by
  rw [← List.take_length (l := X)] at h
  exact last_take h (Nat.le_refl _)
set_option maxHeartbeats 8000000 in
theorem symm_spec {F : List Assn} {bd n c : Nat} {sp : List Value} (hTb : Tabs F) (hN : n ≤ 100000) : ∀ (N : Nat) {P X Y Q : List E} {a m b : Int} {w : World}, X.length + Y.length < N → Sat (blk bd (cellsD (P ++ (X ++ (Y ++ Q))) ++ sp) 32 :: F) w → DL F (P ++ (X ++ (Y ++ Q))) → okE (P ++ (X ++ (Y ++ Q))) →
    0 < X.length → 0 < Y.length → Srt ltE X → Srt ltE Y → a = ((P.length : Nat) : Int) → m = ((P.length + X.length : Nat) : Int) → b = ((P.length + X.length + Y.length : Nat) : Int) → P.length + X.length + Y.length + Q.length = n →
    Ret Tryz.prog 115 [.slice (some ⟨bd, 0, none⟩) n c, int a, int m, int b, .func (.func 34) #[] #[]] w fun _ w' => ∃ Z : List E, Z.Perm (X ++ Y) ∧ Srt ltE Z ∧ Sat (blk bd (cellsD (P ++ (Z ++ Q)) ++ sp) 32 :: F) w' := by
  intro N
  induction N with
  | zero => intro P X Y Q a m b w h; omega
  | succ N ih =>
  intro P X Y Q a m b w hlen hs hD hO hX hY hsx hsy ha hm hb hn
  rcases Nat.lt_or_ge 1 X.length with hX2 | hX2
  rotate_left
  · obtain ⟨x, rfl⟩ : ∃ x, X = [x] := List.length_eq_one_iff.1 (by omega)
    exact symm1_spec (x := x) (Y := Y) hs hTb hD hO hY hsy ha hm hb hn hN
  rcases Nat.lt_or_ge 1 Y.length with hY2 | hY2
  rotate_left
  · obtain ⟨y, rfl⟩ : ∃ y, Y = [y] := List.length_eq_one_iff.1 (by omega)
    exact symm2_spec (X := X) (y := y) hs hTb hD hO hX2 hsx ha hm hb hn hN
  subst ha hm hb
  obtain ⟨h, hh⟩ : ∃ h, (X.length + Y.length) / 2 = h := ⟨_, rfl⟩
  have hmid : (P.length + (P.length + X.length + Y.length)) / 2 = P.length + h := by omega
  obtain ⟨pp, hpp⟩ : ∃ pp, pp + 1 = P.length + h + (P.length + X.length) := ⟨P.length + h + (P.length + X.length) - 1, by omega⟩
  refine Ret.enter [(true, .slice (some ⟨bd, 0, none⟩) n c), (true, int ((P.length : Nat) : Int)), (true, int ((P.length + X.length : Nat) : Int)), (true, int ((P.length + X.length + Y.length : Nat) : Int)), (true, .func (.func 34) #[] #[])] _ Tryz.func115 rfl Tryz.ntmps115 rfl ?_
  refine zz ?_
  repeat first | refine MC.run1 tab 1 rfl rfl (by first | exact True.intro | omega) ?_ | refine zl (za hs rfl) ?_ | refine zq rfl rfl ?_ | refine zp rfl rfl ?_ | refine zf rfl ?_ | refine zt rfl ?_
  rw [mid_eq hmid (by omega)]
  refine MC.cutAtS (σ := Nat × Nat) 1 (fun s => [(0, true, .slice (some ⟨bd, 0, none⟩) n c), (1, true, int ((P.length : Nat) : Int)), (2, true, int ((P.length + X.length : Nat) : Int)), (3, true, int ((P.length + X.length + Y.length : Nat) : Int)), (4, true, .func (.func 34) #[] #[]), (18, true, int ((P.length + h : Nat) : Int)), (19, true, int (((P.length + h : Nat) : Int) + ((P.length + X.length : Nat) : Int))), (20, true, int ((P.length + s.1 : Nat) : Int)), (21, true, int ((P.length + s.2 : Nat) : Int))])
    (fun s w => s.1 ≤ s.2 ∧ s.2 ≤ h ∧ s.2 ≤ X.length ∧ h ≤ Y.length + s.1 ∧ (s.1 = 0 ∨ h = Y.length + s.1) ∧ (s.2 = h ∨ s.2 = X.length) ∧ Sat (blk bd (cellsD (P ++ (X ++ (Y ++ Q))) ++ sp) 32 :: F) w) rfl ?_ ?_
  rotate_left
  · (try dsimp only [List.drop_succ_cons, List.drop_zero, List.take_succ_cons, List.take_zero, List.cons_append, List.nil_append])
    rcases Nat.lt_or_ge h X.length with hlt | hge
    · refine zz ?_
      rw [show ((P.length + h : Nat) : Int) + ((P.length + X.length : Nat) : Int) - ((P.length + X.length + Y.length : Nat) : Int) = ((P.length + (h - Y.length) : Nat) : Int) by omega]
      exact MC.meetS (h - Y.length, h) zi ⟨by show h - Y.length ≤ h; omega, Nat.le_refl _, by show h ≤ X.length; omega, by show h ≤ Y.length + (h - Y.length); omega, .inr (by show h = Y.length + (h - Y.length); omega), .inl rfl, hs⟩
    · refine zz ?_
      exact MC.meetS (0, X.length) zi ⟨Nat.zero_le _, hge, Nat.le_refl _, by show h ≤ Y.length + 0; omega, .inl rfl, .inr rfl, hs⟩
  clear hs
  rintro ⟨lo, hi⟩ w ⟨hlh, hih, hix, hly, hlo, hhi, hs⟩
  dsimp only [List.drop] at hlh hih hix hly hlo hhi hs ⊢
  refine zz ?_
  rw [show ((P.length + h : Nat) : Int) + ((P.length + X.length : Nat) : Int) - 1 = ((pp : Nat) : Int) by omega]
  refine MC.cutAtS (σ := Nat) 2 (fun s => [(0, true, .slice (some ⟨bd, 0, none⟩) n c), (1, true, int ((P.length : Nat) : Int)), (2, true, int ((P.length + X.length : Nat) : Int)), (3, true, int ((P.length + X.length + Y.length : Nat) : Int)), (4, true, .func (.func 34) #[] #[]), (18, true, int ((P.length + h : Nat) : Int)), (19, true, int (((P.length + h : Nat) : Int) + ((P.length + X.length : Nat) : Int))), (20, true, int ((P.length + s : Nat) : Int))])
    (fun s w => s ≤ h ∧ s ≤ X.length ∧ h ≤ Y.length + s ∧ (∀ y x, s < h → Y[h - 1 - s]? = some y → X[s]? = some x → ltE y x = true) ∧ (∀ x y, 0 < s → X[s - 1]? = some x → Y[h - s]? = some y → ltE y x = false) ∧ Sat (blk bd (cellsD (P ++ (X ++ (Y ++ Q))) ++ sp) 32 :: F) w) rfl ?_ ?_
  rotate_left
  · (try dsimp only [List.drop_succ_cons, List.drop_zero, List.take_succ_cons, List.take_zero, List.cons_append, List.nil_append])
    refine MC.loop (σ := Nat × Nat) (fun s => [(0, true, .slice (some ⟨bd, 0, none⟩) n c), (1, true, int ((P.length : Nat) : Int)), (2, true, int ((P.length + X.length : Nat) : Int)), (3, true, int ((P.length + X.length + Y.length : Nat) : Int)), (4, true, .func (.func 34) #[] #[]), (18, true, int ((P.length + h : Nat) : Int)), (19, true, int (((P.length + h : Nat) : Int) + ((P.length + X.length : Nat) : Int))), (20, true, int ((P.length + s.1 : Nat) : Int)), (21, true, int ((P.length + s.2 : Nat) : Int)), (22, true, int ((pp : Nat) : Int))])
      (fun s w => lo ≤ s.1 ∧ s.1 ≤ s.2 ∧ s.2 ≤ hi ∧ (s.2 = hi ∨ ∀ y x, Y[h - 1 - s.2]? = some y → X[s.2]? = some x → ltE y x = true) ∧ (s.1 = lo ∨ ∀ x y, X[s.1 - 1]? = some x → Y[h - s.1]? = some y → ltE y x = false) ∧ Sat (blk bd (cellsD (P ++ (X ++ (Y ++ Q))) ++ sp) 32 :: F) w)
      (fun s => s.2 - s.1) (lo, hi) zi ⟨Nat.le_refl _, hlh, Nat.le_refl _, .inl rfl, .inl rfl, hs⟩ ?_
    clear hs
    rintro ⟨i, j⟩ w ⟨hli, hij, hj, h1, h2, hs⟩
    dsimp only [] at hli hij hj h1 h2 hs ⊢
    rcases Nat.lt_or_ge i j with hlt | hge
    · obtain ⟨k, hk, hik, hkj⟩ : ∃ k, ((P.length + i) + (P.length + j)) / 2 = P.length + k ∧ i ≤ k ∧ k < j := ⟨(i + j) / 2, by omega, by omega, by omega⟩
      have hkx : k < X.length := by omega
      have hky : h - 1 - k < Y.length := by omega
      obtain ⟨x, hx⟩ : ∃ x, X[k] = x := ⟨_, rfl⟩
      obtain ⟨y, hy⟩ : ∃ y, Y[h - 1 - k] = y := ⟨_, rfl⟩
      have e1 : P ++ (X ++ (Y ++ Q)) = (P ++ X.take k) ++ x :: ((X.drop (k + 1) ++ Y.take (h - 1 - k)) ++ y :: (Y.drop (h - 1 - k + 1) ++ Q)) := by
        have ex : X = X.take k ++ x :: X.drop (k + 1) := by rw [← hx, ← List.drop_eq_getElem_cons hkx, List.take_append_drop]
        have ey : Y = Y.take (h - 1 - k) ++ y :: Y.drop (h - 1 - k + 1) := by rw [← hy, ← List.drop_eq_getElem_cons hky, List.take_append_drop]
        exact (congrArg (fun l => P ++ (l ++ (Y ++ Q))) ex).trans ((congrArg (fun l => P ++ (X.take k ++ x :: X.drop (k + 1) ++ (l ++ Q))) ey).trans (by simp only [List.append_assoc, List.cons_append]))
      have hDi := hD
      rw [e1] at hDi
      have lA : (P ++ X.take k).length = P.length + k := by rw [List.length_append, List.length_take]; omega
      have lB : (X.drop (k + 1) ++ Y.take (h - 1 - k)).length = X.length - (k + 1) + (h - 1 - k) := by rw [List.length_append, List.length_drop, List.length_take]; omega
      have hOx := hO x (by rw [← hx]; simp)
      have hOy := hO y (by rw [← hy]; simp)
      have vx := hDi.at
      have vy := hDi.two
      refine zz ?_
      rw [mid_eq hk (by omega)]
      rw [e1] at hs
      refine MC.draw hs [0, 1, 2, 3, 4, 5, 6, 7, 8, 9, 10, 11, 12, 13] (by rfl) ?_; intro w hs
      refine zd ?_
      refine MC.laD true (la_loadV hs rfl (vs := y.2) (D_at2 hDi (by rw [lA, lB]; omega)) vy.len rfl) rfl ?_
      refine zd ?_
      refine MC.laD true (la_loadV hs rfl (vs := x.2) (D_at hDi (by rw [lA]; omega)) vx.len rfl) rfl ?_
      refine zd ?_
      refine MC.doesK true (does_callv (f := 34) (first := []) (capt := []) (vs := [.agg y.2.toArray, .agg x.2.toArray]) rfl rfl (ecmp hs hTb.up vy.up vx.up hOy hOx)) rfl rfl rfl ?_
      rintro _ w ⟨rfl, hs⟩; refine zh ?_
      rw [← e1] at hs
      rcases Int.lt_or_le (cmpV y.1 x.1) 0 with hc | hc
      · have hlz : ltE y x = true := (lt_iff hOy.2 hOx.2).2 hc
        refine zd ?_
        refine MC.condN rfl (fun h => absurd hc h) (fun _ => ?_)
        refine zz ?_
        refine MC.again (i, k) zi ⟨hli, hik, by show k ≤ hi; omega, .inr fun y' x' hy' hx' => ?_, h2, hs⟩ (by show k - i < j - i; omega)
        rw [List.getElem?_eq_getElem hkx, hx] at hx'
        rw [List.getElem?_eq_getElem hky, hy] at hy'
        cases hx'; cases hy'; exact hlz
      · have hlz : ltE y x = false := (lt_neg hOy.2 hOx.2).2 hc
        refine zd ?_
        refine MC.condN rfl (fun _ => ?_) (fun h => absurd hc (by omega))
        refine zz ?_
        rw [show ((P.length + k : Nat) : Int) + 1 = ((P.length + (k + 1) : Nat) : Int) by omega]
        refine MC.again (k + 1, j) zi ⟨by show lo ≤ k + 1; omega, hkj, hj, h1, .inr fun x' y' hx' hy' => ?_, hs⟩ (by show j - (k + 1) < j - i; omega)
        rw [show k + 1 - 1 = k by omega, List.getElem?_eq_getElem hkx, hx] at hx'
        rw [show h - (k + 1) = h - 1 - k by omega, List.getElem?_eq_getElem hky, hy] at hy'
        cases hx'; cases hy'; exact hlz
    · obtain rfl : i = j := by omega
      refine zz ?_
      refine MC.meetS i zi ⟨by show i ≤ h; omega, by show i ≤ X.length; omega, by show h ≤ Y.length + i; omega, fun y x hs' hy hx => ?_, fun x y hs' hx hy => ?_, hs⟩
      · rcases h1 with h1 | h1
        · rcases hhi with e | e
          · omega
          · rw [List.getElem?_eq_none (by omega)] at hx; cases hx
        · exact h1 y x hy hx
      · rcases h2 with h2 | h2
        · rcases hlo with e | e
          · omega
          · rw [List.getElem?_eq_none (by omega)] at hy; cases hy
        · exact h2 x y hx hy
  clear hs hlh hih hix hly hlo hhi
  rintro s w ⟨hsh, hsx', hly, h1, h2, hs⟩
  dsimp only [List.drop] at hsh hsx' hly h1 h2 hs ⊢
  obtain ⟨X1, X2, rfl, l1⟩ : ∃ X1 X2, X = X1 ++ X2 ∧ X1.length = s := ⟨X.take s, X.drop s, (List.take_append_drop _ _).symm, by rw [List.length_take]; omega⟩
  obtain ⟨Y1, Y2, rfl, l2⟩ : ∃ Y1 Y2, Y = Y1 ++ Y2 ∧ Y1.length = h - s := ⟨Y.take (h - s), Y.drop (h - s), (List.take_append_drop _ _).symm, by rw [List.length_take]; omega⟩
  have LX : (X1 ++ X2).length = X1.length + X2.length := List.length_append
  have LY : (Y1 ++ Y2).length = Y1.length + Y2.length := List.length_append
  rw [LX] at hpp hn hh hlen hX2 hsx' ⊢
  rw [LY] at hn hh hly hlen hY2 ⊢
  subst l1
  obtain rfl : h = X1.length + Y1.length := by omega
  refine MC.run1 tab 8 rfl rfl (by simp only [Conds, rng]; omega) ?_
  rw [show ((P.length + (X1.length + Y1.length) : Nat) : Int) + ((P.length + (X1.length + X2.length) : Nat) : Int) - ((P.length + X1.length : Nat) : Int) = ((P.length + X1.length + Y1.length + X2.length : Nat) : Int) by omega]
  have hmid := mid_ok ordE hsx hsy (fun y x hy hx => by
    obtain ⟨g1, g2⟩ := last_all hy
    refine h1 y x (by omega) ?_ ?_
    · rw [show X1.length + Y1.length - 1 - X1.length = Y1.length - 1 by omega, List.getElem?_append_left (by omega)]; exact g2
    · rw [List.getElem?_append_right (Nat.le_refl _), Nat.sub_self, ← List.head?_eq_getElem?]; exact hx) (fun x y hx hy => by
    obtain ⟨g1, g2⟩ := last_all hx
    refine h2 x y g1 ?_ ?_
    · rw [List.getElem?_append_left (by omega)]; exact g2
    · rw [show X1.length + Y1.length - X1.length = Y1.length by omega, List.getElem?_append_right (Nat.le_refl _), Nat.sub_self, ← List.head?_eq_getElem?]; exact hy)
  have eA : P ++ (X1 ++ X2 ++ (Y1 ++ Y2 ++ Q)) = (P ++ X1) ++ (X2 ++ (Y1 ++ (Y2 ++ Q))) := by simp only [List.append_assoc]
  have eB : (P ++ X1) ++ (Y1 ++ (X2 ++ (Y2 ++ Q))) = P ++ (X1 ++ (Y1 ++ (X2 ++ (Y2 ++ Q)))) := by simp only [List.append_assoc]
  have hDB : DL F (P ++ (X1 ++ (Y1 ++ (X2 ++ (Y2 ++ Q))))) := hD.mem fun z hz => by simp only [List.mem_append] at hz ⊢; grind
  have hOB : okE (P ++ (X1 ++ (Y1 ++ (X2 ++ (Y2 ++ Q))))) := hO.perm fun z hz => by simp only [List.mem_append] at hz ⊢; grind
  rw [eA] at hs hD
  refine MC.cutAtS (σ := Unit) 1 (fun _ => [(0, true, .slice (some ⟨bd, 0, none⟩) n c), (1, true, int ((P.length : Nat) : Int)), (2, true, int ((P.length + (X1.length + X2.length) : Nat) : Int)), (3, true, int ((P.length + (X1.length + X2.length) + (Y1.length + Y2.length) : Nat) : Int)), (4, true, .func (.func 34) #[] #[]), (18, true, int ((P.length + (X1.length + Y1.length) : Nat) : Int)), (20, true, int ((P.length + X1.length : Nat) : Int)), (24, true, int ((P.length + X1.length + Y1.length + X2.length : Nat) : Int))])
    (fun _ w => Sat (blk bd (cellsD (P ++ (X1 ++ (Y1 ++ (X2 ++ (Y2 ++ Q))))) ++ sp) 32 :: F) w) rfl ?_ ?_
  rotate_left
  · (try dsimp only [List.drop_succ_cons, List.drop_zero, List.take_succ_cons, List.take_zero, List.cons_append, List.nil_append])
    rcases Nat.eq_zero_or_pos X2.length with hx2 | hx2
    · obtain rfl : X2 = [] := List.eq_nil_of_length_eq_zero hx2
      rw [List.length_nil] at *
      refine zz ?_
      exact MC.meetS () zi (by rw [← eB]; exact hs)
    · rcases Nat.eq_zero_or_pos Y1.length with hy1 | hy1
      · obtain rfl : Y1 = [] := List.eq_nil_of_length_eq_zero hy1
        rw [List.length_nil] at *
        refine zz ?_
        exact MC.meetS () zi (by rw [← eB]; exact hs)
      · refine zz ?_
        have lPX : (P ++ X1).length = P.length + X1.length := List.length_append
        refine zc rfl (rotate_spec hs hD hx2 hy1 (by rw [lPX]) (by rw [lPX]; omega) (by rw [lPX]; omega) (by rw [lPX, List.length_append]; omega) hN) ?_
        intro _ w hs
        refine zz ?_
        exact MC.meetS () zi (by rw [← eB]; exact hs)
  clear hs hD hO h1 h2 eA eB
  rintro _ w hs
  dsimp only [List.drop] at hs ⊢
  refine MC.run1 tab 1 rfl rfl True.intro ?_
  refine MC.cutAtS (σ := List E) 1 (fun _ => [(0, true, .slice (some ⟨bd, 0, none⟩) n c), (3, true, int ((P.length + (X1.length + X2.length) + (Y1.length + Y2.length) : Nat) : Int)), (4, true, .func (.func 34) #[] #[]), (18, true, int ((P.length + (X1.length + Y1.length) : Nat) : Int)), (24, true, int ((P.length + X1.length + Y1.length + X2.length : Nat) : Int))])
    (fun Z w => Z.Perm (X1 ++ Y1) ∧ Srt ltE Z ∧ Sat (blk bd (cellsD (P ++ (Z ++ (X2 ++ (Y2 ++ Q)))) ++ sp) 32 :: F) w) rfl ?_ ?_
  rotate_left
  · (try dsimp only [List.drop_succ_cons, List.drop_zero, List.take_succ_cons, List.take_zero, List.cons_append, List.nil_append])
    rcases Nat.eq_zero_or_pos X1.length with hx1 | hx1
    · obtain rfl : X1 = [] := List.eq_nil_of_length_eq_zero hx1
      rw [List.length_nil] at *
      refine zz ?_
      exact MC.meetS Y1 zi ⟨List.Perm.refl _, hsy.left, hs⟩
    · rcases Nat.eq_zero_or_pos Y1.length with hy1 | hy1
      · obtain rfl : Y1 = [] := List.eq_nil_of_length_eq_zero hy1
        rw [List.length_nil] at *
        refine zz ?_
        exact MC.meetS X1 zi ⟨by rw [List.append_nil], hsx.left, hs⟩
      · refine zz ?_
        refine zc rfl (ih (X := X1) (Y := Y1) (by omega) hs hDB hOB hx1 hy1 hsx.left hsy.left rfl rfl (by omega) (by rw [List.length_append, List.length_append]; omega)) ?_
        rintro _ w ⟨Z, pz, sz, hs⟩
        refine zz ?_
        exact MC.meetS Z zi ⟨pz, sz, hs⟩
  clear hs
  rintro Z w ⟨pz, sz, hs⟩
  dsimp only [List.drop] at hs ⊢
  have lZ := pz.length_eq
  rw [List.length_append] at lZ
  have lPZ : (P ++ Z).length = P.length + Z.length := List.length_append
  have hDZ : DL F ((P ++ Z) ++ (X2 ++ (Y2 ++ Q))) := hDB.mem fun z hz => by
    have := fun h => pz.mem_iff (a := z) |>.1 h
    simp only [List.mem_append] at hz this ⊢; grind
  have hOZ : okE ((P ++ Z) ++ (X2 ++ (Y2 ++ Q))) := hOB.perm fun z hz => by
    have := fun h => pz.mem_iff (a := z) |>.1 h
    simp only [List.mem_append] at hz this ⊢; grind
  have pAll : ∀ W : List E, W.Perm (X2 ++ Y2) → (Z ++ W).Perm (X1 ++ X2 ++ (Y1 ++ Y2)) := fun W hW => by
    refine (pz.append hW).trans ?_
    rw [List.append_assoc, List.append_assoc]
    refine List.Perm.append_left _ ?_
    rw [← List.append_assoc, ← List.append_assoc]
    exact List.Perm.append_right _ List.perm_append_comm
  rw [← List.append_assoc P] at hs
  rcases Nat.eq_zero_or_pos X2.length with hx2 | hx2
  · obtain rfl : X2 = [] := List.eq_nil_of_length_eq_zero hx2
    rw [List.length_nil] at *
    refine zz ?_
    refine MC.end_ rfl ⟨Z ++ Y2, pAll _ (List.Perm.refl _), Srt.join hmid pz (List.Perm.refl _) sz hsy.right, ?_⟩
    rw [List.append_assoc, ← List.append_assoc P]; exact hs
  · rcases Nat.eq_zero_or_pos Y2.length with hy2 | hy2
    · obtain rfl : Y2 = [] := List.eq_nil_of_length_eq_zero hy2
      rw [List.length_nil] at *
      refine zz ?_
      refine MC.end_ rfl ⟨Z ++ X2, pAll _ (by rw [List.append_nil]), Srt.join hmid pz (by rw [List.append_nil]) sz hsx.right, ?_⟩
      rw [List.append_assoc, ← List.append_assoc P]; exact hs
    · refine zz ?_
      refine zc rfl (ih (P := P ++ Z) (X := X2) (Y := Y2) (by omega) hs hDZ hOZ hx2 hy2 hsx.right hsy.right (by rw [lPZ, lZ]) (by rw [lPZ, lZ]; omega) (by rw [lPZ, lZ]; omega) (by rw [lPZ, lZ]; omega)) ?_
      rintro _ w ⟨W, pw, sw, hs⟩
      refine zz ?_
      refine MC.end_ rfl ⟨Z ++ W, pAll W pw, Srt.join hmid pz pw sz sw, ?_⟩
      rw [List.append_assoc, ← List.append_assoc P]; exact hs
end Go.Proofs.YtkccjgllanpebaaGreatDoor
