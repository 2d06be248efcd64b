/-
  The tree that is planted: the document's parts made, Made, Planted | The top law: its walk
-/
import Derived.Test.YtkccjgllanpebaaGreatDoorYbi
import Derived.Test.YtkccjgllanpebaaGreatDoorYav
import Derived.Test.YtkccjgllanpebaaGreatDoorYbe
import Derived.Test.YtkccjgllanpebaaGreatDoorYao
set_option maxHeartbeats 1000000
set_option linter.unusedVariables false
set_option linter.unusedSimpArgs false
namespace Go.Proofs.YtkccjgllanpebaaGreatDoor
open Go Go.Sl Go.Tr
attribute [local irreducible] LooksAt
section
variable {F : List Assn} {w : World}
theorem zeros_bytes (n : Nat) : bytesV (many n 0) = rep n [Value.int .u8 0] := by
  rw [rep_one]; simp [bytesV, many]
theorem rnew15_spec (hs : Sat F w) : Ret Tryz.prog 40 [int 302] w fun v w' => ∃ (p : Nat) (qs : Option Addr) (cs : Nat), v = .tuple #[ptr p, int 0] ∧ Sat (blk p [.slice qs 302 cs, .slice none 0 0, int 0, int (-1)] 153 :: F) w' := by
  refine Ret.enter [(true, int 302)] _ Tryz.func40 rfl Tryz.ntmps40 rfl ?_
  refine zz ?_
  refine MC.pure (f := true) (po_build (ls := [(3, [int (-1)])]) (out := [.slice none 0 0, .slice none 0 0, int 0, int (-1)]) rfl rfl ⟨⟨_, rfl, by simp⟩, trivial⟩ rfl) rfl ?_
  refine zz ?_
  refine MC.does true (does_box hs rfl rfl) rfl ?_; rintro _ w ⟨p, rfl, hs⟩
  refine zz ?_
  have hs : Sat (blk p [.slice none 0 0, .slice none 0 0, int 0, int (-1)] 153 :: sl (.slice none 0 0) 9 1 0 (reps 0 (str (many 256 0))) :: F) w := (hs.sl_nil 9 1).swap
  refine MC.loop (σ := Nat × Value) (fun x => [(0, true, int 302), (4, true, ptr p), (5, true, int ((x.1 : Nat) : Int))])
    (fun x w => x.1 ≤ 302 ∧ Sat (blk p [x.2, .slice none 0 0, int 0, int (-1)] 153 :: sl x.2 9 1 x.1 (reps x.1 (str (many 256 0))) :: F) w) (fun x => 302 - x.1) (0, .slice none 0 0) zi ⟨Nat.zero_le _, hs⟩ ?_
  clear hs
  rintro ⟨i, vs⟩ w ⟨hi, hs⟩
  dsimp only [] at hi hs ⊢
  obtain ⟨-, qs, cs, rfl, -⟩ := hs.tail.sl_len
  rcases Nat.lt_or_ge i 302 with hlt | hge
  · refine zz ?_
    refine MC.draw hs [0, 1, 2, 3, 4, 5, 6, 7, 8, 9, 10, 11] (by rfl) ?_; intro w hs
    refine zd ?_
    refine MC.doesK true (does_makeSliceI 256 256 hs rfl rfl (by omega) (by omega) (Nat.le_refl _) (by omega) (by omega)) rfl rfl rfl ?_
    rintro _ w ⟨b1, rfl, hs⟩; refine zh ?_
    rw [← zeros_bytes] at hs
    have hs : Sat (sl (.slice (some ⟨b1, 0, none⟩) 256 256) 5 1 256 (bytesV (many 256 0)) :: blk p [.slice qs i cs, .slice none 0 0, int 0, int (-1)] 153 :: sl (.slice qs i cs) 9 1 i (reps i (str (many 256 0))) :: F) w := Sat.sl_mk (spare := []) (by rw [List.append_nil]; exact hs) (Nat.le_refl _) (by simp) (by simp)
    obtain ⟨Z, hz⟩ : ∃ Z, many 256 0 = Z := ⟨_, rfl⟩
    rw [hz] at hs
    have hs := hs.pickF 3 [1, 2, 0] rfl rfl
    have hrz := RdS.of_sl hs.tail.tail
    refine zd ?_
    refine MC.laD true (la_tostr rfl hrz hs) rfl ?_
    refine zd ?_
    refine MC.doesK true (does_buildL hs rfl rfl rfl (all1 rfl) rfl) rfl rfl rfl ?_; rintro _ w ⟨b2, rfl, hs⟩; refine zh ?_
    refine zd ?_
    refine MC.doesK true (does_append hs rfl rfl (src_at rfl (all1 rfl)) (by omega) (by omega)) rfl rfl rfl ?_
    intro va w hs; refine zh ?_
    obtain ⟨-, qa, ca, rfl, -⟩ := hs.tail.tail.sl_len
    refine zd ?_
    refine MC.doesD true (does_store1 hs rfl rfl rfl (by first | decide | (simp; done) | (simp; omega))) rfl rfl rfl rfl ?_; intro _ w hs
    refine zd ?_
    refine zz ?_
    refine MC.again (i + 1, .slice qa (i + 1) ca) zi ⟨hlt, ?_⟩ (by show 302 - (i + 1) < 302 - i; omega)
    show Sat (blk p [.slice qa (i + 1) ca, .slice none 0 0, int 0, int (-1)] _ :: sl (.slice qa (i + 1) ca) _ 1 (i + 1) (reps (i + 1) (str (many 256 0))) :: F) w
    have e : reps (i + 1) (str (many 256 0)) = reps i (str Z) ++ [str Z] := by
      rw [hz]; exact List.replicate_succ'
    rw [e]
    exact hs.tail.pickF 3 [0, 1] rfl rfl
  · obtain rfl : i = 302 := by omega
    refine zz ?_
    refine MC.ret rfl ?_
    exact ⟨p, qs, cs, rfl, hs.pickF 2 [0] rfl rfl⟩
set_option maxHeartbeats 4000000 in
theorem rnew18_spec {vr : Nat} (hs : Sat F w) : Ret Tryz.prog 42 [ptr vr, int 4] w fun v w' => ∃ p, v = .tuple #[ptr p, int 0] ∧ Sat F w' := by
  refine Ret.enter [(true, ptr vr), (true, int 4)] _ Tryz.func42 rfl Tryz.ntmps42 rfl ?_
  refine zz ?_
  refine MC.cutAtS (σ := Nat) 1 (fun c => [(1, true, int 4), (6, true, ptr c)]) (fun c w => ∃ v2 v3 v4, Sat (blk c [ptr vr, .slice none 0 0, v2, v3, v4, .slice none 0 0, int 0, int 0, int 0] 160 :: F) w) rfl ?_ ?_
  rotate_left
  · (try dsimp only [List.drop_succ_cons, List.drop_zero, List.take_succ_cons, List.take_zero, List.cons_append, List.nil_append])
    refine MC.draw hs [0, 1, 3, 5, 2, 4, 6, 7, 8, 9] (by rfl) ?_; intro w hs
    refine zd ?_
    refine MC.fork3 4 [2, 6, 7, 8, 9] 6 [2, 4, 7, 8, 9] rfl rfl rfl (does_makeSliceI 4 4 hs rfl rfl rfl rfl (Nat.le_refl _) (by omega) (by omega)) (does_makeSliceI 4 4 hs rfl rfl rfl rfl (Nat.le_refl _) (by omega) (by omega)) (does_makeSliceI 4 4 hs rfl rfl rfl rfl (Nat.le_refl _) (by omega) (by omega)) ?_ ?_ ?_
    · rintro _ w ⟨bx, rfl, hs⟩; refine zh ?_
      refine zd ?_
      refine MC.fork 6 [4, 7, 8, 9] rfl rfl (does_makeSliceI 4 4 hs rfl rfl rfl rfl (Nat.le_refl _) (by omega) (by omega)) (does_makeSliceI 4 4 hs rfl rfl rfl rfl (Nat.le_refl _) (by omega) (by omega)) ?_ ?_
      · rintro _ w ⟨by_, rfl, hs⟩; refine zh ?_
        refine zd ?_
        refine MC.doesK true (does_makeSliceI 4 4 hs rfl rfl rfl rfl (Nat.le_refl _) (by omega) (by omega)) rfl rfl rfl ?_
        rintro _ w ⟨bz, rfl, hs⟩; refine zh ?_
        refine zd ?_
        refine MC.pure (f := true) (po_build (ls := [(0, [ptr vr]), (2, [.slice (some ⟨bx, 0, none⟩) 4 4]), (3, [.slice (some ⟨by_, 0, none⟩) 4 4]), (4, [.slice (some ⟨bz, 0, none⟩) 4 4])]) (out := [ptr vr, .slice none 0 0, .slice (some ⟨bx, 0, none⟩) 4 4, .slice (some ⟨by_, 0, none⟩) 4 4, .slice (some ⟨bz, 0, none⟩) 4 4, .slice none 0 0, int 0, int 0, int 0]) rfl rfl ⟨⟨_, rfl, by simp⟩, ⟨_, rfl, by simp⟩, ⟨_, rfl, by simp⟩, ⟨_, rfl, by simp⟩, trivial⟩ rfl) rfl ?_
        refine zd ?_
        refine MC.doesK true (does_box hs rfl rfl) rfl rfl rfl ?_
        rintro _ w ⟨c, rfl, hs⟩; refine zh ?_
        refine zd ?_
        exact MC.meetS c zi ⟨_, _, _, hs.pickF 4 [0] rfl rfl⟩
      · rintro _ w ⟨bz, rfl, hs⟩; refine zh ?_
        refine zd ?_
        refine MC.doesK true (does_makeSliceI 4 4 hs rfl rfl rfl rfl (Nat.le_refl _) (by omega) (by omega)) rfl rfl rfl ?_
        rintro _ w ⟨by_, rfl, hs⟩; refine zh ?_
        refine zd ?_
        refine MC.pure (f := true) (po_build (ls := [(0, [ptr vr]), (2, [.slice (some ⟨bx, 0, none⟩) 4 4]), (3, [.slice (some ⟨by_, 0, none⟩) 4 4]), (4, [.slice (some ⟨bz, 0, none⟩) 4 4])]) (out := [ptr vr, .slice none 0 0, .slice (some ⟨bx, 0, none⟩) 4 4, .slice (some ⟨by_, 0, none⟩) 4 4, .slice (some ⟨bz, 0, none⟩) 4 4, .slice none 0 0, int 0, int 0, int 0]) rfl rfl ⟨⟨_, rfl, by simp⟩, ⟨_, rfl, by simp⟩, ⟨_, rfl, by simp⟩, ⟨_, rfl, by simp⟩, trivial⟩ rfl) rfl ?_
        refine zd ?_
        refine MC.doesK true (does_box hs rfl rfl) rfl rfl rfl ?_
        rintro _ w ⟨c, rfl, hs⟩; refine zh ?_
        refine zd ?_
        exact MC.meetS c zi ⟨_, _, _, hs.pickF 4 [0] rfl rfl⟩
    · rintro _ w ⟨by_, rfl, hs⟩; refine zh ?_
      refine zd ?_
      refine MC.fork 6 [2, 7, 8, 9] rfl rfl (does_makeSliceI 4 4 hs rfl rfl rfl rfl (Nat.le_refl _) (by omega) (by omega)) (does_makeSliceI 4 4 hs rfl rfl rfl rfl (Nat.le_refl _) (by omega) (by omega)) ?_ ?_
      · rintro _ w ⟨bx, rfl, hs⟩; refine zh ?_
        refine zd ?_
        refine MC.doesK true (does_makeSliceI 4 4 hs rfl rfl rfl rfl (Nat.le_refl _) (by omega) (by omega)) rfl rfl rfl ?_
        rintro _ w ⟨bz, rfl, hs⟩; refine zh ?_
        refine zd ?_
        refine MC.pure (f := true) (po_build (ls := [(0, [ptr vr]), (2, [.slice (some ⟨bx, 0, none⟩) 4 4]), (3, [.slice (some ⟨by_, 0, none⟩) 4 4]), (4, [.slice (some ⟨bz, 0, none⟩) 4 4])]) (out := [ptr vr, .slice none 0 0, .slice (some ⟨bx, 0, none⟩) 4 4, .slice (some ⟨by_, 0, none⟩) 4 4, .slice (some ⟨bz, 0, none⟩) 4 4, .slice none 0 0, int 0, int 0, int 0]) rfl rfl ⟨⟨_, rfl, by simp⟩, ⟨_, rfl, by simp⟩, ⟨_, rfl, by simp⟩, ⟨_, rfl, by simp⟩, trivial⟩ rfl) rfl ?_
        refine zd ?_
        refine MC.doesK true (does_box hs rfl rfl) rfl rfl rfl ?_
        rintro _ w ⟨c, rfl, hs⟩; refine zh ?_
        refine zd ?_
        exact MC.meetS c zi ⟨_, _, _, hs.pickF 4 [0] rfl rfl⟩
      · rintro _ w ⟨bz, rfl, hs⟩; refine zh ?_
        refine zd ?_
        refine MC.doesK true (does_makeSliceI 4 4 hs rfl rfl rfl rfl (Nat.le_refl _) (by omega) (by omega)) rfl rfl rfl ?_
        rintro _ w ⟨bx, rfl, hs⟩; refine zh ?_
        refine zd ?_
        refine MC.pure (f := true) (po_build (ls := [(0, [ptr vr]), (2, [.slice (some ⟨bx, 0, none⟩) 4 4]), (3, [.slice (some ⟨by_, 0, none⟩) 4 4]), (4, [.slice (some ⟨bz, 0, none⟩) 4 4])]) (out := [ptr vr, .slice none 0 0, .slice (some ⟨bx, 0, none⟩) 4 4, .slice (some ⟨by_, 0, none⟩) 4 4, .slice (some ⟨bz, 0, none⟩) 4 4, .slice none 0 0, int 0, int 0, int 0]) rfl rfl ⟨⟨_, rfl, by simp⟩, ⟨_, rfl, by simp⟩, ⟨_, rfl, by simp⟩, ⟨_, rfl, by simp⟩, trivial⟩ rfl) rfl ?_
        refine zd ?_
        refine MC.doesK true (does_box hs rfl rfl) rfl rfl rfl ?_
        rintro _ w ⟨c, rfl, hs⟩; refine zh ?_
        refine zd ?_
        exact MC.meetS c zi ⟨_, _, _, hs.pickF 4 [0] rfl rfl⟩
    · rintro _ w ⟨bz, rfl, hs⟩; refine zh ?_
      refine zd ?_
      refine MC.fork 4 [2, 7, 8, 9] rfl rfl (does_makeSliceI 4 4 hs rfl rfl rfl rfl (Nat.le_refl _) (by omega) (by omega)) (does_makeSliceI 4 4 hs rfl rfl rfl rfl (Nat.le_refl _) (by omega) (by omega)) ?_ ?_
      · rintro _ w ⟨bx, rfl, hs⟩; refine zh ?_
        refine zd ?_
        refine MC.doesK true (does_makeSliceI 4 4 hs rfl rfl rfl rfl (Nat.le_refl _) (by omega) (by omega)) rfl rfl rfl ?_
        rintro _ w ⟨by_, rfl, hs⟩; refine zh ?_
        refine zd ?_
        refine MC.pure (f := true) (po_build (ls := [(0, [ptr vr]), (2, [.slice (some ⟨bx, 0, none⟩) 4 4]), (3, [.slice (some ⟨by_, 0, none⟩) 4 4]), (4, [.slice (some ⟨bz, 0, none⟩) 4 4])]) (out := [ptr vr, .slice none 0 0, .slice (some ⟨bx, 0, none⟩) 4 4, .slice (some ⟨by_, 0, none⟩) 4 4, .slice (some ⟨bz, 0, none⟩) 4 4, .slice none 0 0, int 0, int 0, int 0]) rfl rfl ⟨⟨_, rfl, by simp⟩, ⟨_, rfl, by simp⟩, ⟨_, rfl, by simp⟩, ⟨_, rfl, by simp⟩, trivial⟩ rfl) rfl ?_
        refine zd ?_
        refine MC.doesK true (does_box hs rfl rfl) rfl rfl rfl ?_
        rintro _ w ⟨c, rfl, hs⟩; refine zh ?_
        refine zd ?_
        exact MC.meetS c zi ⟨_, _, _, hs.pickF 4 [0] rfl rfl⟩
      · rintro _ w ⟨by_, rfl, hs⟩; refine zh ?_
        refine zd ?_
        refine MC.doesK true (does_makeSliceI 4 4 hs rfl rfl rfl rfl (Nat.le_refl _) (by omega) (by omega)) rfl rfl rfl ?_
        rintro _ w ⟨bx, rfl, hs⟩; refine zh ?_
        refine zd ?_
        refine MC.pure (f := true) (po_build (ls := [(0, [ptr vr]), (2, [.slice (some ⟨bx, 0, none⟩) 4 4]), (3, [.slice (some ⟨by_, 0, none⟩) 4 4]), (4, [.slice (some ⟨bz, 0, none⟩) 4 4])]) (out := [ptr vr, .slice none 0 0, .slice (some ⟨bx, 0, none⟩) 4 4, .slice (some ⟨by_, 0, none⟩) 4 4, .slice (some ⟨bz, 0, none⟩) 4 4, .slice none 0 0, int 0, int 0, int 0]) rfl rfl ⟨⟨_, rfl, by simp⟩, ⟨_, rfl, by simp⟩, ⟨_, rfl, by simp⟩, ⟨_, rfl, by simp⟩, trivial⟩ rfl) rfl ?_
        refine zd ?_
        refine MC.doesK true (does_box hs rfl rfl) rfl rfl rfl ?_
        rintro _ w ⟨c, rfl, hs⟩; refine zh ?_
        refine zd ?_
        exact MC.meetS c zi ⟨_, _, _, hs.pickF 4 [0] rfl rfl⟩
  clear hs
  rintro c w ⟨v2, v3, v4, hs⟩
  (try dsimp only [List.drop_succ_cons, List.drop_zero, List.take_succ_cons, List.take_zero, List.cons_append, List.nil_append])
  refine zz ?_
  have hs := ((hs.sl_nil 3 1).sl_nil 3 1).pickF 3 [2, 0, 1] rfl rfl
  refine MC.loop (σ := Nat × Value × Value) (fun x => [(1, true, int 4), (6, true, ptr c), (7, true, int ((x.1 : Nat) : Int))])
    (fun x w => x.1 ≤ 4 ∧ ∃ xs ys, Sat (blk c [ptr vr, x.2.1, v2, v3, v4, x.2.2, int 0, int 0, int 0] 160 :: sl x.2.1 3 1 x.1 xs :: sl x.2.2 3 1 x.1 ys :: F) w) (fun x => 4 - x.1) (0, .slice none 0 0, .slice none 0 0) zi ⟨Nat.zero_le _, _, _, hs⟩ ?_
  clear hs
  rintro ⟨i, vs, vf⟩ w ⟨hi, xs, ys, hs⟩
  dsimp only [] at hi hs ⊢
  obtain ⟨-, qs, cs, rfl, -⟩ := hs.tail.sl_len
  obtain ⟨-, qf, cf, rfl, -⟩ := hs.tail.tail.sl_len
  rcases Nat.lt_or_ge i 4 with hlt | hge
  · refine zz ?_
    refine MC.does true (does_buildL hs rfl rfl rfl (all1 rfl) rfl) rfl ?_; rintro _ w ⟨b1, rfl, hs⟩
    refine zz ?_
    have hs := hs.pickF 4 [2, 1, 3, 0] rfl rfl
    refine MC.does true (does_append hs rfl rfl (src_at rfl (all1 rfl)) (by omega) (by omega)) rfl ?_
    intro va w hs
    obtain ⟨-, qa, ca, rfl, -⟩ := hs.sl_len
    refine zz ?_
    refine MC.does true (does_store1 hs rfl rfl rfl (by simp)) rfl ?_; intro _ w hs
    refine zz ?_
    refine MC.does true (does_buildL hs rfl rfl rfl (all1 rfl) rfl) rfl ?_; rintro _ w ⟨b2, rfl, hs⟩
    refine zz ?_
    have hs := hs.pickF 5 [3, 2, 1, 0] rfl rfl
    refine MC.does true (does_append hs rfl rfl (src_at rfl (all1 rfl)) (by omega) (by omega)) rfl ?_
    intro vb w hs
    obtain ⟨-, qb, cb, rfl, -⟩ := hs.sl_len
    refine zz ?_
    refine MC.does true (does_store1 hs rfl rfl rfl (by simp)) rfl ?_; intro _ w hs
    refine zz ?_
    trace_state
    exact MC.again (i + 1, .slice qa (i + 1) ca, .slice qb (i + 1) cb) zi ⟨hlt, _, _, hs.pickF 4 [1, 2, 0] rfl rfl⟩ (by show 4 - (i + 1) < 4 - i; omega)
  · obtain rfl : i = 4 := by omega
    refine zz ?_
    refine MC.ret rfl ?_
    exact ⟨c, rfl, hs.pickF 3 [] rfl rfl⟩
theorem region_spec {rp cs : Nat} {qs : Option Addr} {v1 v2 v3 : Value} (hs : Sat (blk rp [.slice qs 302 cs, v1, v2, v3] 153 :: F) w) : Ret Tryz.prog 84 [ptr rp, int 2, int 300] w fun v w' => v = bool true ∧ w' = w := by
  refine Ret.enter [(true, ptr rp), (true, int 2), (true, int 300)] _ Tryz.func84 rfl Tryz.ntmps84 rfl ?_
  refine zz ?_
  refine MC.ret rfl ?_
  exact ⟨rfl, rfl⟩
theorem rnew19_spec {rp rc cs : Nat} {qs : Option Addr} {v1 v2 v3 : Value} (hs : Sat (blk rp [.slice qs 302 cs, v1, v2, v3] 153 :: F) w) :
    Ret Tryz.prog 44 [ptr rp, ptr rc, int 2, int 300, .slice none 0 0] w fun v w' => ∃ p, v = .tuple #[ptr p, int 0] ∧ Sat F w' := by
  refine Ret.enter [(true, ptr rp), (true, ptr rc), (true, int 2), (true, int 300), (true, .slice none 0 0)] _ Tryz.func44 rfl Tryz.ntmps44 rfl ?_
  refine zz ?_
  refine zc rfl (region_spec hs) ?_
  rintro _ _ ⟨rfl, rfl⟩
  refine zz ?_
  refine MC.does true (does_makeSliceI 300 300 hs rfl rfl rfl rfl (Nat.le_refl _) (by omega) (by omega)) rfl ?_
  rintro _ w ⟨b1, rfl, hs⟩
  refine zz ?_
  refine MC.pure (f := true) (po_build (ls := [(0, [ptr rp]), (1, [ptr rc]), (2, [int 2]), (3, [.slice (some ⟨b1, 0, none⟩) 300 300])]) (out := [ptr rp, ptr rc, int 2, .slice (some ⟨b1, 0, none⟩) 300 300, int 0, int 0]) rfl rfl ⟨⟨_, rfl, by simp⟩, ⟨_, rfl, by simp⟩, ⟨_, rfl, by simp⟩, ⟨_, rfl, by simp⟩, trivial⟩ rfl) rfl ?_
  refine zz ?_
  refine MC.does true (does_box hs rfl rfl) rfl ?_; rintro _ w ⟨p, rfl, hs⟩
  refine zz ?_
  have hs := hs.pickF 3 [] rfl rfl
  refine MC.loop (σ := Nat) (fun i => [(12, true, ptr p), (13, true, int 0), (4, true, .slice none 0 0)]) (fun i w => Sat F w) (fun i => i) 0 zi hs ?_
  clear hs
  rintro i w hs
  refine zz ?_
  refine MC.ret rfl ?_
  exact ⟨p, rfl, hs⟩
theorem made_spec (hs : Sat F w) : Ret Tryz.prog 13 [int 300] w fun v w' => ∃ (x : Nat) (z : Pw) (u : Value), v = ptr x ∧ z.E.down = false ∧ z.E.frm = 2 ∧ Sat (blk x [ptr z.p, u] 56 :: pgr z ⟨liveK [], fun _ => []⟩ none :: F) w' := by
  refine Ret.enter [(true, int 300)] _ Tryz.func13 rfl Tryz.ntmps13 rfl ?_
  refine zz ?_
  refine zc rfl (new_spec hs 302 (by decide) (by decide)) ?_
  rintro _ w ⟨pd, rfl, hs⟩
  have hD0 : (Dev.new 302).ok := Dev.new_ok (by decide) (by decide)
  refine zz ?_
  refine zc rfl (rnew15_spec hs) ?_
  rintro _ w ⟨rp, qs, cs, rfl, hs⟩
  refine zz ?_
  have hcn := cnew_spec (sec := fun k => (Dev.new 302).get k) hs.swap hD0
  refine zc rfl (hcn) ?_
  rintro _ w ⟨qc, rfl, hs⟩
  refine zz ?_
  refine zc rfl (rnew18_spec (vr := rp) hs) ?_
  rintro _ w ⟨rc, rfl, hs⟩
  refine zz ?_
  have hpn := pnew_spec (n := 0) (vl := .slice none 0 0) (live := []) hs hD0 (by decide) List.length_replicate (RdS.nil _ _) (by simp) (by simp) (by simp)
  refine zc rfl (hpn) ?_
  rintro _ w ⟨pp, rfl, hs⟩
  have hs := (hs fun _ => []).swap
  refine zz ?_
  refine zc rfl (rnew19_spec (rc := rc) hs) ?_
  rintro _ w ⟨rg, rfl, hs⟩
  refine zz ?_
  refine MC.pure (f := true) (po_build (ls := [(0, [ptr pp]), (1, [ptr rg])]) (out := [ptr pp, ptr rg]) rfl rfl ⟨⟨_, rfl, by simp⟩, ⟨_, rfl, by simp⟩, trivial⟩ rfl) rfl ?_
  refine zz ?_
  refine MC.does true (does_box hs rfl rfl) rfl ?_; rintro _ w ⟨x, rfl, hs⟩
  refine zz ?_
  refine MC.ret rfl ?_
  exact ⟨x, ⟨pp, qc, pd, Dev.new 302, ⟨fun k => (Dev.new 302).get k, decide ((Dev.new 302).fuse = 1), 2⟩, fun k => k ∈ []⟩, ptr rg, rfl, (show decide ((0 : Int) = 1) = false from rfl), rfl, hs⟩
theorem planted_spec (hs : Sat F w) : Ret Tryz.prog 4 [int 300] w fun v w' => ∃ (z : Pw) (tp : Nat), v = .tuple #[ptr z.p, ptr tp] ∧ z.E.down = false ∧ z.E.frm = 2 ∧ Sat (pgr z ⟨liveK [], fun _ => []⟩ none :: tbT z tp ⟨0, 0, 0⟩ :: F) w' := by
  refine Ret.enter [(true, int 300)] _ Tryz.func4 rfl Tryz.ntmps4 rfl ?_
  refine zz ?_
  refine zc rfl (made_spec hs) ?_
  rintro _ w ⟨x, z, u, rfl, hd, hf, hs⟩
  refine zz ?_
  refine zc rfl (tNew_spec hs.swap) ?_
  rintro _ w ⟨tp, rfl, hs⟩
  refine zz ?_
  refine MC.ret rfl ?_
  exact ⟨z, tp, rfl, hd, hf, hs.pickF 3 [0, 1] rfl rfl⟩
end
end Go.Proofs.YtkccjgllanpebaaGreatDoor

namespace Go.Proofs.YtkccjgllanpebaaGreatDoor
open Go Go.Sl Go.Tr Go.Kv Go.Ms Go.Pa
attribute [local irreducible] LooksAt
theorem VR.cells6 {F : List Assn} {v : V} {r : List Value} (h : VR F v r) : ∃ (k m e : Int) (tx : Bs) (ql : Option Addr) (nl cl : Nat) (qk : Option Addr) (nk ck : Nat), r = [int k, int m, int e, str tx, .slice ql nl cl, .slice qk nk ck] := by
  obtain ⟨k, m, e, tx, lv, kx⟩ := v
  obtain ⟨ql, qk, cl, ck, rows, rfl, -⟩ := h.open_
  exact ⟨k, m, e, tx, ql, _, cl, qk, _, ck, rfl⟩
theorem liveK_le : ∀ x ∈ liveK [], x ≤ 1 := fun x hx => by
  unfold liveK at hx
  obtain ⟨i, _, rfl⟩ := List.mem_map.1 hx
  simp
theorem room0 (f : Nat → Bs) : room ⟨liveK [], f⟩ = 300 := by
  unfold room
  show (liveK []).count 0 = 300
  rw [liveK_nil, List.count_replicate_self]
structure TopI (z : Pw) (i : Nat) (few : List V) (s : St) (t : T) (L : List Pr) : Prop where
  len : few.length ≤ i
  ti : TI few L
  hold : Holds t L
  pr : PR z.E (liveK []) (300 - 7 * i) (trT t L :: []) s
  ok : ∀ v ∈ few, rightV v = 0 ∧ sizeV v ≤ 100 ∧ (putV v).length ≤ 60
  rt : t.root ≤ 100000
theorem TopI.next {z : Pw} {i : Nat} {few : List V} {s : St} {t : T} {L : List Pr} (h : TopI z i few s t L) : TopI z (i + 1) few s t L :=
  ⟨by have := h.len; omega, h.ti, h.hold, h.pr.less (by omega), h.ok, h.rt⟩
theorem TopI.mono {z : Pw} {i j : Nat} {few : List V} {s : St} {t : T} {L : List Pr} (h : TopI z i few s t L) (hij : i ≤ j) : TopI z j few s t L :=
  ⟨by have := h.len; omega, h.ti, h.hold, h.pr.less (by omega), h.ok, h.rt⟩
theorem TopI.zero {z : Pw} (hd : z.E.down = false) (hf : z.E.frm = 2) : TopI z 0 [] ⟨liveK [], fun _ => []⟩ ⟨0, 0, 0⟩ [] := by
  refine ⟨Nat.le_refl _, TI.nil, ⟨List.Pairwise.nil, rfl⟩, ⟨(trT_zero rfl).2 ⟨rfl, trivial, ?_, Kst.refl _⟩, ?_, liveK_le, hd⟩, fun v hv => (by cases hv), Nat.zero_le _⟩
  · rw [hf, liveK_len]; decide
  · rw [room0]; decide
theorem TopI.small {z : Pw} {i : Nat} {few : List V} {s : St} {t : T} {L : List Pr} (h : TopI z i few s t L) (hi : i ≤ 40) : L.length ≤ 40 ∧ t.height ≤ 6 ∧ t.count = L.length := by
  have h1 := h.len
  have h2 := h.ti.len
  exact ⟨by omega, height_le h.hold (by omega) h.pr.1, h.hold.cnt⟩
theorem TopI.step {z : Pw} {i : Nat} {few : List V} {s : St} {t : T} {L : List Pr} {v : V} {x : Bs} (h : TopI z i few s t L) (hi : i < 40) (hr : rightV v = 0) (hz : sizeV v ≤ 100) (hp : (putV v).length ≤ 60) (hx : x.length ≤ 15) :
    1 ≤ (putV v).length ∧ Sure (putT z.E t (putV v) x) s fun t' s' => TopI z (i + 1) (few ++ [v]) s' t' (insL L (putV v) x) := by
  have hpos : 1 ≤ (putV v).length := by
    obtain ⟨b, r, e, _⟩ := put_head (right_ok hr).1
    rw [e]; simp
  obtain ⟨h1, h2, h3⟩ := h.small (by omega)
  refine ⟨hpos, (put_sure' (c := 300 - 7 * (i + 1)) hx ⟨hpos, by omega⟩ h.ti.short h.hold (h.pr.less (by omega))).mono ?_⟩
  rintro t' s' ⟨g1, g2⟩
  have hne : insL L (putV v) x ≠ [] := fun e => by
    have := (ins_self : (putV v, x) ∈ insL L (putV v) x)
    rw [e] at this; cases this
  refine ⟨by rw [List.length_append, List.length_singleton]; have := h.len; omega, h.ti.snoc hx, g2, g1, fun u hu => ?_, ?_⟩
  · rcases List.mem_append.1 hu with hu | hu
    · exact h.ok u hu
    · rw [List.mem_singleton.1 hu]; exact ⟨hr, hz, hp⟩
  · rcases Nat.eq_zero_or_pos t'.height with h0 | h0
    · exact absurd ((trT_zero h0).1 g1.1).1 hne
    · obtain ⟨k, h5⟩ : ∃ k, t'.height = k + 1 := ⟨t'.height - 1, by omega⟩
      obtain ⟨_, _, _, a⟩ := tr_ps.1 ((trT_succ h5).1 g1.1)
      have := a.lt
      omega
section
variable {F : List Assn} {w : World}
set_option maxHeartbeats 8000000 in
theorem top_walk {l : List V} {rows : List (List Value)} {vl : Value} (hs : Sat F w) (hT : Tabs F) (hl : RdS F 6 vl l.length rows.flatten) (hvl : VL F l rows) :
    Ret Tryz.prog 3 [vl] w fun v w' => v = bool true ∧ Sat F w' := by
  obtain ⟨ql, cl, rfl, hcl, _⟩ := hl.shape
  refine Ret.enter [(true, .slice ql l.length cl)] _ Tryz.func3 rfl Tryz.ntmps3 rfl ?_
  refine zz ?_
  refine zc rfl (planted_spec hs) ?_
  rintro _ w ⟨z, tp, rfl, hd, hfr, hs⟩
  refine zz ?_
  have hs := hs.sl_nil 32 6
  refine MC.cutAtS (σ := Value) 2 (fun vf => [(3, true, ptr z.p), (4, true, ptr tp), (5, true, vf)])
    (fun vf w => ∃ (few : List V) (rf : List (List Value)) (s : St) (t : T) (L : List Pr), TopI z 40 few s t L ∧ VL F few rf ∧ Sat (sl vf 32 6 few.length rf.flatten :: pgr z s none :: tbT z tp t :: F) w) rfl ?_ ?_
  rotate_left
  · (try dsimp only [List.drop_succ_cons, List.drop_zero, List.take_succ_cons, List.take_zero, List.cons_append, List.nil_append])
    refine MC.loop (σ := Nat × Value) (fun x => [(0, true, .slice ql l.length cl), (3, true, ptr z.p), (4, true, ptr tp), (5, true, x.2), (6, true, int ((x.1 : Nat) : Int))])
      (fun x w => x.1 ≤ l.length ∧ x.1 ≤ 40 ∧ ∃ (few : List V) (rf : List (List Value)) (s : St) (t : T) (L : List Pr), TopI z x.1 few s t L ∧ VL F few rf ∧ Sat (sl x.2 32 6 few.length rf.flatten :: pgr z s none :: tbT z tp t :: F) w)
      (fun x => 40 - x.1) (0, .slice none 0 0) zi ⟨Nat.zero_le _, Nat.zero_le _, [], [], _, _, [], TopI.zero hd hfr, VL.nil _, hs⟩ ?_
    clear hs
    rintro ⟨i, vf⟩ w ⟨hi, hi40, few, rf, s, t, L, hI, hVf, hs⟩
    dsimp only [] at hi hi40 hI hVf hs ⊢
    obtain ⟨_, qf, cf, rfl, hcf⟩ := hs.sl_len
    rcases Nat.lt_or_ge i l.length with hlt | hge
    rotate_left
    · obtain rfl : i = l.length := by omega
      refine zz ?_
      exact MC.meetS _ zi ⟨few, rf, s, t, L, hI.mono (by omega), hVf, hs⟩
    rcases Nat.lt_or_ge i 40 with h40 | h40
    rotate_left
    · refine zz ?_
      exact MC.meetS _ zi ⟨few, rf, s, t, L, hI.mono (by omega), hVf, hs⟩
    have hri : i < rows.length := by rw [hvl.len]; exact hlt
    have hvr := hvl.row i l[i] rows[i] (List.getElem?_eq_getElem hlt) (List.getElem?_eq_getElem hri)
    have hft := flat_take hvl.six hri
    obtain ⟨v, hv⟩ : ∃ v, l[i] = v := ⟨_, rfl⟩
    obtain ⟨r, hr⟩ : ∃ r, rows[i] = r := ⟨_, rfl⟩
    rw [hv, hr] at hvr
    rw [hr] at hft
    obtain ⟨bl, ol, rfl, hrl⟩ := hl.at_ (by omega)
    refine zz ?_
    refine MC.la true (la_loadV_rd hrl hs (j := ((i : Nat) : Int).toNat * 6) (vs := r) rfl hft hvr.len rfl) rfl ?_
    refine zz ?_
    refine zc rfl (bulk_spec _ (most := 100) hs hvr.up (by decide)) ?_
    rintro _ w ⟨b, rfl, hb1, hb2, hs⟩
    rcases Nat.lt_or_ge 100 b with hb | hb
    · unfold hugeN at hb1
      refine zz ?_
      exact MC.again (i + 1, .slice qf few.length cf) zi ⟨hlt, h40, few, rf, s, t, L, hI.next, hVf, hs⟩ (by show 40 - (i + 1) < 40 - i; omega)
    have hz := hb2 hb
    refine zz ?_
    refine MC.la true (la_loadV_rd hrl hs (j := ((i : Nat) : Int).toNat * 6) (vs := r) rfl hft hvr.len rfl) rfl ?_
    refine zz ?_
    refine zc rfl (bytes_spec hs hT.up hvr.up (by omega)) ?_
    rintro _ w (⟨h0, rfl, hs⟩ | ⟨h0, vb, rfl, hs⟩)
    · obtain ⟨R, hR⟩ : ∃ R, rightV v = R := ⟨_, rfl⟩
      rw [hR] at h0 ⊢
      refine zz ?_
      exact MC.again (i + 1, .slice qf few.length cf) zi ⟨hlt, h40, few, rf, s, t, L, hI.next, hVf, hs⟩ (by show 40 - (i + 1) < 40 - i; omega)
    obtain ⟨_, qb, cb, rfl, _⟩ := hs.sl_len
    by_cases h60 : 60 < (putV v).length
    · have hpl := putV_len v (right_ok h0).1
      refine zz ?_
      exact MC.again (i + 1, .slice qf few.length cf) zi ⟨hlt, h40, few, rf, s, t, L, hI.next, hVf, hs.tail⟩ (by show 40 - (i + 1) < 40 - i; omega)
    obtain ⟨hpos, hput⟩ := hI.step (x := [UInt8.ofNat i]) h40 h0 (by omega) (by omega) (by simp)
    refine zz ?_
    refine MC.does true (does_buildL hs rfl rfl rfl (all1 rfl) rfl) rfl ?_; rintro _ w ⟨b1, rfl, hs⟩
    have hby : Value.int .u8 (IntKind.u8.wrap ((i : Nat) : Int)) = byte (UInt8.ofNat i) := by
      rw [wrap_u8]
      show Value.int .u8 _ = .int .u8 (((UInt8.ofNat i).toNat : Nat) : Int)
      rw [nat_of_u8 (by omega)]
      congr 1
      omega
    rw [hby] at hs
    have hs := Sat.sl_mk (size := 1) (n := 1) (c := 1) (xs := [byte (UInt8.ofNat i)]) (spare := []) hs (Nat.le_refl _) rfl rfl
    have hs := hs.pickF 5 [3, 4, 1, 0, 2] rfl rfl
    have hkr := RdS.of_sl hs.tail.tail
    have hvr2 := RdS.of_sl hs.tail.tail.tail
    obtain ⟨hL40, hh6, hcn⟩ := hI.small (by omega)
    refine zc rfl (tPutE_spec (key := putV v) (value := [UInt8.ofNat i]) hs hkr hvr2.up ⟨hpos, by omega⟩ (by simp) hI.rt (by omega) (by omega)) ?_
    rintro _ w (⟨t', s', hm, _, _, _, rfl, hs⟩ | ⟨e, he, rfl, ⟨e', s', hm⟩, hs⟩)
    rotate_left
    · exact absurd hm (hput.1 _ _)
    have hI2 := hput.2 _ _ hm
    have hs := hs.pickF 5 [4, 0, 1] rfl rfl
    refine zz ?_
    refine MC.la true (la_loadV_rd hrl hs (j := ((i : Nat) : Int).toNat * 6) (vs := r) rfl hft hvr.len rfl) rfl ?_
    refine zz ?_
    obtain ⟨k, m, e, tx, ql2, nl2, cl2, qk2, nk2, ck2, rfl⟩ := hvr.cells6
    refine MC.does true (does_buildSlice (vs := [(0, .agg #[int k, int m, int e, str tx, .slice ql2 nl2 cl2, .slice qk2 nk2 ck2])]) (ls := [(0, [int k, int m, int e, str tx, .slice ql2 nl2 cl2, .slice qk2 nk2 ck2])]) (out := [int k, int m, int e, str tx, .slice ql2 nl2 cl2, .slice qk2 nk2 ck2]) hs rfl rfl ⟨⟨_, rfl, by simp [rep]⟩, trivial⟩ rfl rfl) rfl ?_
    rintro _ w ⟨b8, rfl, hs⟩
    refine zz ?_
    have hs := Sat.sl_mk (size := 6) (n := 1) (c := 1) (xs := [int k, int m, int e, str tx, .slice ql2 nl2 cl2, .slice qk2 nk2 ck2]) (spare := []) hs (Nat.le_refl _) rfl rfl
    have hs := hs.pickF 2 [1, 0] rfl rfl
    have hr8 := RdS.of_sl hs.tail
    have hfl := hI.len
    refine MC.does true (does_append hs rfl rfl (RdS.src hr8 (fun u hu => by simp only [List.mem_cons, List.not_mem_nil, or_false] at hu; rcases hu with rfl | rfl | rfl | rfl | rfl | rfl <;> rfl)) (by omega) (by omega)) rfl ?_
    intro vn w hs
    obtain ⟨_, qn, cn, rfl, _⟩ := hs.sl_len
    refine zz ?_
    have hs := hs.pickF 2 [0] rfl rfl
    have hV2 := hVf.snoc hvr
    rw [← flat_snoc] at hs
    exact MC.again (i + 1, .slice qn (few.length + 1) cn) zi ⟨hlt, h40, few ++ [v], _, s', t', _, hI2, hV2, by rw [List.length_append]; exact hs⟩ (by show 40 - (i + 1) < 40 - i; omega)
  · clear hs
    rintro vf w ⟨few, rf, s, t, L, hI, hVf, hs⟩
    dsimp only [List.drop] at hs ⊢
    obtain ⟨_, qf, cf, rfl, hcf⟩ := hs.sl_len
    obtain ⟨hL40, hh6, hcn⟩ := hI.small (Nat.le_refl _)
    have hs := hs.pickF 3 [1, 2, 0] rfl rfl
    refine zz ?_
    refine zc rfl (range_spec hd hs hI.hold hI.pr.1 hI.ti.short hL40 hh6 hI.rt) ?_
    rintro _ w ⟨qp, cp, G, rowsP, rfl, hPL, hs⟩
    refine zz ?_
    refine zc rfl (tCount_spec hs) ?_
    rintro _ _ ⟨rfl, rfl⟩
    rw [hcn]
    refine zz ?_
    have hs := Sat.perm (List.Perm.cons (sl (.slice qp L.length cp) 48 2 L.length rowsP.flatten) (List.perm_middle (a := sl (.slice qf few.length cf) 32 6 few.length rf.flatten) (l₁ := G) (l₂ := F))) (hs.pickF 3 [2] rfl rfl)
    haveI i1 : Suf (G ++ F) F := suf_app G F
    haveI i2 : Suf (G ++ F) G := suf_left G F
    have hlP := RdS.of_sl hs
    have hlF := RdS.of_sl hs.tail
    obtain ⟨F1, hF1⟩ : ∃ F1, sl (.slice qp L.length cp) 48 2 L.length rowsP.flatten :: sl (.slice qf few.length cf) 32 6 few.length rf.flatten :: (G ++ F) = F1 := ⟨_, rfl⟩
    have hlF1 : RdS F1 6 (.slice qf few.length cf) few.length rf.flatten := by rw [← hF1]; exact hlF.up
    have hlP1 : RdS F1 2 (.slice qp L.length cp) L.length rowsP.flatten := by rw [← hF1]; exact hlP
    have hT1 : Tabs F1 := by rw [← hF1]; exact hT.up
    have hV1 : VL F1 few rf := by rw [← hF1]; exact VL.up hVf
    have hPL1 : PL F1 (keysL L) rowsP := by rw [← hF1]; exact PL.up hPL
    have hsF : ∀ w, Sat F1 w → Sat F w := fun w h => by rw [← hF1] at h; exact (suf_app G F).out w h.tail.tail
    rw [hF1] at hs
    clear hlF hlP i1 i2
    refine zc rfl (sort_spec hs hT1 hlF1 hV1 hI.len (fun v hv => ⟨by have := (hI.ok v hv).2.1; omega, (hI.ok v hv).1⟩)) ?_
    rintro _ w ⟨D, G3, vx, rfl, hperm, hsrt, hDL, hs⟩
    have hDn : D.length = few.length := by rw [← hperm.length_eq, List.length_map]
    obtain ⟨_, qx, cx, rfl, hcx⟩ := hs.sl_len
    haveI i3 : Suf (G3 ++ F1) F1 := suf_app G3 F1
    haveI i4 : Suf (G3 ++ F1) G3 := suf_left G3 F1
    have hlX := RdS.of_sl hs
    obtain ⟨F2, hF2⟩ : ∃ F2, sl (.slice qx few.length cx) 32 6 few.length (cellsD D) :: (G3 ++ F1) = F2 := ⟨_, rfl⟩
    have hlX2 : RdS F2 6 (.slice qx few.length cx) few.length (cellsD D) := by rw [← hF2]; exact hlX
    have hlP2 : RdS F2 2 (.slice qp L.length cp) L.length rowsP.flatten := by rw [← hF2]; exact hlP1.up
    have hT2 : Tabs F2 := by rw [← hF2]; exact hT1.up
    have hPL2 : PL F2 (keysL L) rowsP := by rw [← hF2]; exact PL.up hPL1
    have hDL2 : DL F2 D := by rw [← hF2]; exact DL.up hDL
    have hsF2 : ∀ w, Sat F2 w → Sat F w := fun w h => by rw [← hF2] at h; exact hsF w ((suf_app G3 F1).out w h.tail)
    rw [hF2] at hs
    clear hlX i3 i4
    obtain ⟨S, hS⟩ : ∃ S, D.map (·.1) = S := ⟨_, rfl⟩
    obtain ⟨rS, hrS⟩ : ∃ rS, D.map (·.2) = rS := ⟨_, rfl⟩
    have hcell : cellsD D = rS.flatten := by rw [← hrS]; exact List.flatMap_def ..
    have hSn : S.length = few.length := by rw [← hS, List.length_map]; exact hDn
    have hVS : VL F2 S rS := ⟨by rw [← hS, ← hrS, List.length_map, List.length_map], fun i v r hv hr => by
      rw [← hS, List.getElem?_map] at hv
      rw [← hrS, List.getElem?_map] at hr
      obtain ⟨p, hp, rfl⟩ := Option.map_eq_some_iff.1 hv
      rw [hp] at hr
      obtain rfl := Option.some.inj hr
      exact hDL2 p (List.mem_of_getElem? hp)⟩
    rw [hcell, ← hSn] at hlX2
    rw [← hSn]
    rw [hS] at hperm
    have hmem : ∀ v, v ∈ S ↔ v ∈ few := fun v => hperm.mem_iff
    have hko : ∀ v ∈ few, okV v := fun v hv => (right_ok (hI.ok v hv).1).1
    have hsorted : S.Pairwise fun a b => cmpV a b ≤ 0 := by
      rw [← hS, List.pairwise_map]
      refine List.Pairwise.imp_of_mem ?_ hsrt
      intro a b ha hb h
      have oa := hko a.1 ((hmem _).1 (by rw [← hS]; exact List.mem_map_of_mem ha))
      have ob := hko b.1 ((hmem _).1 (by rw [← hS]; exact List.mem_map_of_mem hb))
      rcases Int.lt_or_le 0 (cmpV a.1 b.1) with h1 | h1
      · have := cmp_gt oa ob h1
        have h : ltB (putV b.1) (putV a.1) = false := h
        rw [h] at this; cases this
      · exact h1
    have hkeys := keys_of hko hmem hsorted hI.ti.srt hI.ti.to_ hI.ti.of_
    have hnwL : (nw none S).length = L.length := by
      have := congrArg List.length hkeys
      rwa [List.length_map, List.length_map] at this
    have hlen := hI.len
    clear hF1 hF2 hlF1 hlP1 hT1 hV1 hPL1 hDL hDL2
    refine zz ?_
    refine MC.loop (σ := Nat × Nat) (fun x => [(9, true, .slice qp L.length cp), (11, true, .slice qx S.length cx), (12, true, int ((x.2 : Nat) : Int)), (91, true, .slice qx S.length cx), (92, true, int ((S.length : Nat) : Int)), (93, true, int ((x.1 : Nat) : Int))])
      (fun x w => x.1 ≤ S.length ∧ x.2 = (nw none (S.take x.1)).length ∧ Sat F2 w) (fun x => S.length - x.1) (0, 0) zi ⟨Nat.zero_le _, rfl, hs⟩ ?_
    clear hs
    rintro ⟨i, at'⟩ w ⟨hi, hat, hs⟩
    dsimp only [] at hi hat hs ⊢
    rcases Nat.lt_or_ge i S.length with hlt | hge
    rotate_left
    · obtain rfl : i = S.length := by omega
      rw [List.take_length, hnwL] at hat
      refine zz ?_
      refine MC.ret rfl ?_
      exact ⟨by rw [decide_eq_true (by rw [hat])]; rfl, hsF2 _ hs⟩
    have hri : i < rS.length := by rw [hVS.len]; exact hlt
    have hvr := hVS.row i S[i] rS[i] (List.getElem?_eq_getElem hlt) (List.getElem?_eq_getElem hri)
    have hft := flat_take hVS.six hri
    obtain ⟨bx, ox, rfl, hrx⟩ := hlX2.at_ (by omega)
    obtain ⟨v, hv⟩ : ∃ v, S[i] = v := ⟨_, rfl⟩
    obtain ⟨r, hr⟩ : ∃ r, rS[i] = r := ⟨_, rfl⟩
    have hvf := hI.ok v ((hmem v).1 (hv ▸ List.getElem_mem hlt))
    rw [hv, hr] at hvr
    rw [hr] at hft
    obtain ⟨k, m, e, tx, ql2, nl2, cl2, qk2, nk2, ck2, rfl⟩ := hvr.cells6
    refine zz ?_
    refine MC.la true (la_loadV_rd hrx hs (j := ((i : Nat) : Int).toNat * 6) (vs := [int k, int m, int e, str tx, .slice ql2 nl2 cl2, .slice qk2 nk2 ck2]) rfl hft rfl rfl) rfl ?_
    refine zz ?_
    refine MC.does true (does_alloc hs) rfl ?_; rintro _ w ⟨b14, rfl, hs⟩
    refine zz ?_
    refine MC.does true (does_store (vs := [int k, int m, int e, str tx, .slice ql2 nl2 cl2, .slice qk2 nk2 ck2]) hs rfl rfl rfl rfl (all1 rfl) (by simp)) rfl ?_; intro _ w hs; rw [splice_all (by rfl)] at hs
    refine zz ?_
    rcases Nat.eq_zero_or_pos i with h0 | h0
    rotate_left
    · have hri' : i - 1 < rS.length := by omega
      have hvu := hVS.row (i - 1) (S[i - 1]'(by omega)) rS[i - 1] (List.getElem?_eq_getElem (by omega)) (List.getElem?_eq_getElem hri')
      have hfu := flat_take hVS.six hri'
      rw [show (((i - 1 : Nat) : Nat) : Int) = ((i : Nat) : Int) - 1 by omega] at hfu
      obtain ⟨u, hu⟩ : ∃ u, S[i - 1]'(by omega) = u := ⟨_, rfl⟩
      obtain ⟨ru, hru⟩ : ∃ r, rS[i - 1] = r := ⟨_, rfl⟩
      rw [hu, hru] at hvu
      rw [hru] at hfu
      have hgu : S[i - 1]? = some u := by rw [← hu]; exact List.getElem?_eq_getElem (by omega)
      refine MC.draw hs [0, 1, 2, 3, 4, 5, 6, 7, 8, 9, 10] (by rfl) ?_; intro w hs
      refine zd ?_
      refine MC.laD true (la_loadV (vs := [int k, int m, int e, str tx, .slice ql2 nl2 cl2, .slice qk2 nk2 ck2]) hs rfl rfl rfl rfl) rfl ?_
      refine zd ?_
      refine MC.laD true (la_loadV_rd hrx hs (j := (((i : Nat) : Int) - 1).toNat * 6) (vs := ru) rfl hfu hvu.len rfl) rfl ?_
      refine zd ?_
      refine MC.doesK true (does_call rfl (same_spec v hs hvr.up hvu.up)) rfl rfl rfl ?_
      rintro _ w ⟨rfl, hs⟩; refine zh ?_
      by_cases huv : v = u
      · rw [show decide (v = u) = true from decide_eq_true huv]
        refine zd ?_
        refine zz ?_
        have hst := nw_step hlt
        rw [if_pos ⟨h0, by rw [hgu, hv, huv]⟩, List.append_nil] at hst
        exact MC.again (i + 1, at') zi ⟨hlt, by rw [hst]; exact hat, hs.tail⟩ (by show S.length - (i + 1) < S.length - i; omega)
      rw [show decide (v = u) = false from decide_eq_false huv]
      have hne : ¬ (0 < i ∧ S[i - 1]? = some S[i]) := by
        rintro ⟨_, h⟩
        rw [hgu, hv] at h
        exact huv (Option.some.inj h).symm
      refine zd ?_
      refine zz ?_
      have hka := key_at hkeys hlt hne
      rw [← hat, hv] at hka
      have hatlt : at' < L.length := by
        have := (List.getElem?_eq_some_iff.1 hka).1
        rwa [List.length_map] at this
      have hrp : at' < rowsP.length := by rw [hPL2.len, List.length_map]; exact hatlt
      obtain ⟨vk, vv, hrow, hkrd⟩ := hPL2.row at' (putV v) rowsP[at'] hka (List.getElem?_eq_getElem hrp)
      have hcp : rowsP.flatten[((at' : Nat) : Int).toNat * 2]? = some vk := by
        have h1 := rows_cell (f := id) (c := 2) (xs := rowsP) hPL2.two hrp (r := 0) (by decide)
        rw [Nat.add_zero, List.flatMap_id] at h1
        rw [Int.toNat_natCast, h1]
        show (rowsP[at'])[0]? = _
        rw [hrow]; rfl
      obtain ⟨qk, ck, rfl, _, _⟩ := hkrd.shape
      obtain ⟨bq, oq, hq, hrq⟩ := hlP2.at_ (by omega)
      have hs9 := hs
      subst hq
      have hs := hs9
      refine zz ?_
      refine MC.la true (la_load1_rd hrq hs (j := ((at' : Nat) : Int).toNat * 2) rfl hcp) rfl ?_
      refine zz ?_
      refine zc rfl (kread_spec hs hT2.up hkrd.up hvr hvf.1 (by omega)) ?_
      rintro _ w ⟨rx, G4, rfl, hG4, hs⟩
      obtain ⟨k3, m3, e3, tx3, ql3, nl3, cl3, qk3, nk3, ck3, rfl⟩ := hG4.cells6
      have hs := Sat.perm (List.perm_middle (a := blk b14 [int k, int m, int e, str tx, .slice ql2 nl2 cl2, .slice qk2 nk2 ck2] 32) (l₁ := G4) (l₂ := F2)) hs
      haveI i5 : Suf (G4 ++ F2) F2 := suf_app G4 F2
      haveI i6 : Suf (G4 ++ F2) G4 := suf_left G4 F2
      refine zz ?_
      refine MC.does true (does_alloc hs) rfl ?_; rintro _ w ⟨b15, rfl, hs⟩
      refine zz ?_
      refine MC.does true (does_store (vs := [int k3, int m3, int e3, str tx3, .slice ql3 nl3 cl3, .slice qk3 nk3 ck3]) hs rfl rfl rfl rfl (all1 rfl) (by simp)) rfl ?_; intro _ w hs; rw [splice_all (by rfl)] at hs
      refine zz ?_
      refine MC.la true (la_load1_rd hrq hs (j := ((at' : Nat) : Int).toNat * 2) rfl hcp) rfl ?_
      refine zz ?_
      refine MC.la true (la_loadV (vs := [int k3, int m3, int e3, str tx3, .slice ql3 nl3 cl3, .slice qk3 nk3 ck3]) hs rfl rfl rfl rfl) rfl ?_
      refine zz ?_
      refine MC.la true (la_loadV (vs := [int k, int m, int e, str tx, .slice ql2 nl2 cl2, .slice qk2 nk2 ck2]) hs rfl rfl rfl rfl) rfl ?_
      refine zz ?_
      refine zc rfl (same_spec v hs hG4.up hvr.up) ?_
      rintro _ w ⟨rfl, hs⟩
      rw [show decide (v = v) = true from decide_eq_true rfl]
      refine zz ?_
      have hst := nw_step hlt
      rw [if_neg hne] at hst
      refine MC.again (i + 1, at' + 1) zi ⟨hlt, ?_, i5.out _ hs.tail.tail⟩ (by show S.length - (i + 1) < S.length - i; omega)
      show at' + 1 = _
      rw [hst, List.length_append, ← hat]; rfl
    · have hne : ¬ (0 < i ∧ S[i - 1]? = some S[i]) := by omega
      refine MC.draw hs [0, 1, 2, 3, 4, 5, 6, 7, 8, 9, 10] (by rfl) ?_; intro w hs
      refine zd ?_
      refine zz ?_
      have hka := key_at hkeys hlt hne
      rw [← hat, hv] at hka
      have hatlt : at' < L.length := by
        have := (List.getElem?_eq_some_iff.1 hka).1
        rwa [List.length_map] at this
      have hrp : at' < rowsP.length := by rw [hPL2.len, List.length_map]; exact hatlt
      obtain ⟨vk, vv, hrow, hkrd⟩ := hPL2.row at' (putV v) rowsP[at'] hka (List.getElem?_eq_getElem hrp)
      have hcp : rowsP.flatten[((at' : Nat) : Int).toNat * 2]? = some vk := by
        have h1 := rows_cell (f := id) (c := 2) (xs := rowsP) hPL2.two hrp (r := 0) (by decide)
        rw [Nat.add_zero, List.flatMap_id] at h1
        rw [Int.toNat_natCast, h1]
        show (rowsP[at'])[0]? = _
        rw [hrow]; rfl
      obtain ⟨qk, ck, rfl, _, _⟩ := hkrd.shape
      obtain ⟨bq, oq, hq, hrq⟩ := hlP2.at_ (by omega)
      have hs9 := hs
      subst hq
      have hs := hs9
      refine zz ?_
      refine MC.la true (la_load1_rd hrq hs (j := ((at' : Nat) : Int).toNat * 2) rfl hcp) rfl ?_
      refine zz ?_
      refine zc rfl (kread_spec hs hT2.up hkrd.up hvr hvf.1 (by omega)) ?_
      rintro _ w ⟨rx, G4, rfl, hG4, hs⟩
      obtain ⟨k3, m3, e3, tx3, ql3, nl3, cl3, qk3, nk3, ck3, rfl⟩ := hG4.cells6
      have hs := Sat.perm (List.perm_middle (a := blk b14 [int k, int m, int e, str tx, .slice ql2 nl2 cl2, .slice qk2 nk2 ck2] 32) (l₁ := G4) (l₂ := F2)) hs
      haveI i5 : Suf (G4 ++ F2) F2 := suf_app G4 F2
      haveI i6 : Suf (G4 ++ F2) G4 := suf_left G4 F2
      refine zz ?_
      refine MC.does true (does_alloc hs) rfl ?_; rintro _ w ⟨b15, rfl, hs⟩
      refine zz ?_
      refine MC.does true (does_store (vs := [int k3, int m3, int e3, str tx3, .slice ql3 nl3 cl3, .slice qk3 nk3 ck3]) hs rfl rfl rfl rfl (all1 rfl) (by simp)) rfl ?_; intro _ w hs; rw [splice_all (by rfl)] at hs
      refine zz ?_
      refine MC.la true (la_load1_rd hrq hs (j := ((at' : Nat) : Int).toNat * 2) rfl hcp) rfl ?_
      refine zz ?_
      refine MC.la true (la_loadV (vs := [int k3, int m3, int e3, str tx3, .slice ql3 nl3 cl3, .slice qk3 nk3 ck3]) hs rfl rfl rfl rfl) rfl ?_
      refine zz ?_
      refine MC.la true (la_loadV (vs := [int k, int m, int e, str tx, .slice ql2 nl2 cl2, .slice qk2 nk2 ck2]) hs rfl rfl rfl rfl) rfl ?_
      refine zz ?_
      refine zc rfl (same_spec v hs hG4.up hvr.up) ?_
      rintro _ w ⟨rfl, hs⟩
      rw [show decide (v = v) = true from decide_eq_true rfl]
      refine zz ?_
      have hst := nw_step hlt
      rw [if_neg hne] at hst
      refine MC.again (i + 1, at' + 1) zi ⟨hlt, ?_, i5.out _ hs.tail.tail⟩ (by show S.length - (i + 1) < S.length - i; omega)
      show at' + 1 = _
      rw [hst, List.length_append, ← hat]; rfl
end
end Go.Proofs.YtkccjgllanpebaaGreatDoor
