/- The device: what is open. -/
import Derived.Test.YtoigogonccjagaaDoorDeve
set_option linter.unusedVariables false
set_option linter.unusedSimpArgs false
namespace Go.Proofs.YtoigogonccjagaaDoor
open Go Go.Sl
attribute [local irreducible] LooksAt

def openV (O : List (Nat × List UInt8)) : List Value := O.map fun x => int (x.1 : Int)
theorem openV_one (O : List (Nat × List UInt8)) : ∀ u ∈ openV O, u.oneCell' = true := by
  intro u hu
  obtain ⟨x, _, rfl⟩ := List.mem_map.1 hu
  rfl
theorem open_spec {F : List Assn} {p : Nat} {D : Dev} {w : World} (hs : Sat (dev p D :: F) w) (hD : D.ok) (hO : D.O.length ≤ 100000) :
    Ret Tryd.prog 20 [ptr p] w fun v w' => Sat (sl v 3 1 D.O.length (openV D.O) :: dev p D :: F) w' := by
  obtain ⟨vs, vo, hs⟩ := dev_open hs
  obtain ⟨hol, qo, co, rfl, hco⟩ := (hs.pull 2 rfl).sl_len
  refine Ret.enter [(true, ptr p)] _ Tryd.func20 rfl Tryd.ntmps20 rfl ?_
  repeat (first | (refine MC.run1 tab 1000 rfl rfl (by first | exact True.intro | (simp only [Conds, rng, Int.toNat_natCast, List.length_append, bytesV_length] <;> omega) | (simp [Conds, rng] <;> omega) | (simp only [Conds, rng, wrap_u8, wrap_u16, wrap_u32, wrap_u64] <;> omega)) ?_) | (refine MC.la true (la_load1 hs rfl (by rfl)) rfl ?_))
  refine MC.loop (σ := Nat × Value) (fun s => [(3, true, s.2), (11, true, .slice qo D.O.length co), (12, true, int D.O.length), (13, true, int (s.1 : Nat))])
    (fun s w => s.1 ≤ D.O.length ∧ Sat (sl s.2 3 1 s.1 (openV (D.O.take s.1)) :: blk p [vs, .slice qo D.O.length co, int D.reads, int D.fuse] 43 :: sl vs 81 256 D.S.length (secV D.S) :: sl (.slice qo D.O.length co) 83 257 D.O.length (opV D.O) :: F) w) (fun s => D.O.length - s.1) (0, .slice none 0 0) (by repeat (first | exact trivial | refine ⟨rfl, ?_⟩)) ⟨by omega, hs.sl_nil _ _⟩ ?_
  rintro ⟨i, v⟩ w ⟨hi, hs⟩
  have hi : i ≤ D.O.length := hi
  have hs : Sat (sl v 3 1 i (openV (D.O.take i)) :: blk p [vs, .slice qo D.O.length co, int D.reads, int D.fuse] 43 :: sl vs 81 256 D.S.length (secV D.S) :: sl (.slice qo D.O.length co) 83 257 D.O.length (opV D.O) :: F) w := hs
  repeat (first | (refine MC.run1 tab 1000 rfl rfl (by first | exact True.intro | (simp only [Conds, rng, Int.toNat_natCast, List.length_append, bytesV_length] <;> omega) | (simp [Conds, rng] <;> omega) | (simp only [Conds, rng, wrap_u8, wrap_u16, wrap_u32, wrap_u64] <;> omega)) ?_) | (refine MC.la true (la_load1 hs rfl (by rfl)) rfl ?_))
  refine MC.cond rfl (fun hlt => ?_) (fun hge => ?_)
  · have hlt : i < D.O.length := by omega
    have hx1 := (hD.op _ (List.getElem_mem hlt)).1
    have hr0 := RdS.of_sl hs.tail.tail.tail
    obtain ⟨q', c', e1, h1, h2, h3⟩ := id hr0
    injection e1 with e1
    subst e1
    obtain ⟨bo, oo, rfl, hr⟩ := h3 (by omega)
    repeat (first | (refine MC.run1 tab 1000 rfl rfl (by first | exact True.intro | (simp only [Conds, rng, Int.toNat_natCast, List.length_append, bytesV_length] <;> omega) | (simp [Conds, rng] <;> omega) | (simp only [Conds, rng, wrap_u8, wrap_u16, wrap_u32, wrap_u64] <;> omega)) ?_) | (refine MC.la true (la_load1 hs rfl (by rfl)) rfl ?_))
    refine MC.la true (la_loadV_rd hr hs (j := i * 257) rfl (vs := opB D.O[i]) (rows_get (fun x hx => opB_length (hD.op x hx).1) hlt) (opB_length hx1) rfl) rfl ?_
    refine MC.does true (does_alloc hs) rfl ?_; rintro _ w ⟨_, rfl, hs⟩
    refine MC.does true (does_store (vs := opB D.O[i]) hs rfl rfl rfl (opB_length hx1) (opB_one _) (by simp)) rfl ?_
    intro _ w hs
    rw [splice_all (by simp [opB_length hx1])] at hs
    repeat (first | (refine MC.run1 tab 1000 rfl rfl (by first | exact True.intro | (simp only [Conds, rng, Int.toNat_natCast, List.length_append, bytesV_length] <;> omega) | (simp [Conds, rng] <;> omega) | (simp only [Conds, rng, wrap_u8, wrap_u16, wrap_u32, wrap_u64] <;> omega)) ?_) | (refine MC.la true (la_load1 hs rfl (by rfl)) rfl ?_))
    refine MC.does true (does_buildSlice (ls := [(0, [int (D.O[i].1 : Int)])]) (out := [int (D.O[i].1 : Int)]) hs rfl rfl (by exact ⟨⟨0, rfl, by simp [rep_length]⟩, trivial⟩) (by exact congrArg some (splice_all (by simp [rep_length]))) (by rfl)) rfl ?_
    rintro _ w ⟨b1, rfl, hs⟩
    refine MC.does true (does_append hs rfl rfl (src_at rfl (by simp [Value.oneCell'])) (by omega) (by omega)) rfl ?_
    intro va w hs
    have e : openV (D.O.take i) ++ [int (D.O[i].1 : Int)] = openV (D.O.take (i + 1)) := by
      rw [List.take_add_one, List.getElem?_eq_getElem hlt]; simp only [openV, List.map_append]; rfl
    rw [e] at hs
    repeat (first | (refine MC.run1 tab 1000 rfl rfl (by first | exact True.intro | (simp only [Conds, rng, Int.toNat_natCast, List.length_append, bytesV_length] <;> omega) | (simp [Conds, rng] <;> omega) | (simp only [Conds, rng, wrap_u8, wrap_u16, wrap_u32, wrap_u64] <;> omega)) ?_) | (refine MC.la true (la_load1 hs rfl (by rfl)) rfl ?_))
    exact MC.again (i + 1, va) (by repeat (first | exact trivial | refine ⟨rfl, ?_⟩)) ⟨hlt, hs.tail.tail⟩ (by show D.O.length - (i + 1) < D.O.length - i; omega)
  · have hi' : i = D.O.length := by omega
    subst hi'
    rw [List.take_length] at hs
    repeat (first | (refine MC.run1 tab 1000 rfl rfl (by first | exact True.intro | (simp only [Conds, rng, Int.toNat_natCast, List.length_append, bytesV_length] <;> omega) | (simp [Conds, rng] <;> omega) | (simp only [Conds, rng, wrap_u8, wrap_u16, wrap_u32, wrap_u64] <;> omega)) ?_) | (refine MC.la true (la_load1 hs rfl (by rfl)) rfl ?_))
    refine MC.ret rfl ?_
    have hs := hs.pickF 4 [1, 2, 3, 0] rfl rfl
    (try dsimp only [List.eraseIdx, List.cons_append, List.nil_append, List.drop_succ_cons, List.drop_zero, List.append_eq] at hs)
    exact (dev_shut hs).swap
theorem open_nil {w : World} : Ret Tryd.prog 20 [.pointer none] w fun v w' => v = .slice none 0 0 ∧ w' = w := by
  refine Ret.enter [(true, .pointer none)] _ Tryd.func20 rfl Tryd.ntmps20 rfl ?_
  repeat (first | (refine MC.run1 tab 1000 rfl rfl (by first | exact True.intro | (simp only [Conds, rng, Int.toNat_natCast, List.length_append, bytesV_length] <;> omega) | (simp [Conds, rng] <;> omega) | (simp only [Conds, rng, wrap_u8, wrap_u16, wrap_u32, wrap_u64] <;> omega)) ?_) | (refine MC.la true (la_load1 hs rfl (by rfl)) rfl ?_))
  refine MC.ret rfl ?_
  exact ⟨rfl, rfl⟩
end Go.Proofs.YtoigogonccjagaaDoor
