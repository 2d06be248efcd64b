/- The device: writing, syncing, what is open. -/
import Derived.Test.YtoigogonccjagaaDoorDevb
set_option linter.unusedVariables false
set_option linter.unusedSimpArgs false
namespace Go.Proofs.YtoigogonccjagaaDoor
open Go Go.Sl
attribute [local irreducible] LooksAt

def Dev.write (D : Dev) (k : Nat) (l : List UInt8) : Dev := { D with O := D.O ++ [(k, l)], fuse := burnt D.fuse }
theorem burnt_ok {f : Int} (h0 : 0 ≤ f) (h1 : f ≤ 2305843009213693952) : 0 ≤ burnt f ∧ burnt f ≤ 2305843009213693952 := by
  simp only [burnt]; split <;> omega
theorem Dev.wrong_zero {D : Dev} {k b : Int} : D.wrong k b = 0 ↔ 0 ≤ k ∧ k < D.S.length ∧ b = 256 ∧ D.fuse ≠ 1 := by
  simp only [Dev.wrong]
  split
  · simp; omega
  · split
    · simp; omega
    · split <;> simp <;> omega
theorem Dev.write_ok {D : Dev} (hD : D.ok) {k : Nat} (hk : k < D.S.length) {l : List UInt8} (hl : l.length = 256) : (D.write k l).ok :=
  { hD with
    op := fun x hx => by
      rcases List.mem_append.1 hx with h | h
      · exact hD.op x h
      · rw [List.mem_singleton.1 h]; exact ⟨hl, hk⟩
    fuse0 := (burnt_ok hD.fuse0 hD.fuse1).1
    fuse1 := (burnt_ok hD.fuse0 hD.fuse1).2 }
theorem opV_append (a b : List (Nat × List UInt8)) : opV (a ++ b) = opV a ++ opV b := by simp [opV]
theorem opV_one {k : Nat} {l : List UInt8} : opV [(k, l)] = int k :: bytesV l := by simp [opV, opB]
theorem splice_all {vs cs : List Value} (h : vs.length = cs.length) : splice cs 0 vs = vs := by
  rw [splice_eq _ _ _ (by omega), List.take_zero, List.nil_append, List.drop_of_length_le (by omega), List.append_nil]
theorem build_write {z v : Value} {vs zs : List Value} (h : vs.length = 256) (hz : zs.length = 256) : splice (splice (z :: zs) 0 [v]) 1 vs = v :: vs := by
  rw [splice_eq [v] _ _ (by simp), splice_eq _ _ _ (by simp; omega)]
  simp [h]; omega
theorem one_cons {n : Int} {l : List Value} (h : ∀ u ∈ l, u.oneCell' = true) : ∀ u ∈ int n :: l, u.oneCell' = true := by
  intro u hu
  rcases List.mem_cons.1 hu with rfl | h'
  · rfl
  · exact h u h'
theorem write_spec {F : List Assn} {p : Nat} {D : Dev} {w : World} {k : Int} {vb : Value} {nb : Nat} {l : List UInt8} (hs : Sat (dev p D :: F) w) (hD : D.ok) (hl : RdS F 1 vb nb (bytesV l)) (hO : D.O.length ≤ 100000) :
    Ret Tryd.prog 62 [ptr p, int k, vb] w fun v w' => v = int (D.wrong k l.length) ∧ Sat (dev p (if D.wrong k l.length = 0 then D.write k.toNat l else D) :: F) w' := by
  have hready := ready_spec hs hD k l.length
  have hbnd : ∃ q c, vb = .slice q l.length c ∧ l.length ≤ c := by
    obtain ⟨q, c, rfl, h1, h2, h3⟩ := id hl
    simp at h2
    exact ⟨q, c, by rw [h2], by omega⟩
  obtain ⟨q, c, rfl, hc⟩ := hbnd
  refine Ret.enter [(true, ptr p), (true, int k), (true, .slice q l.length c)] _ Tryd.func62 rfl Tryd.ntmps62 rfl ?_
  repeat (first | (refine MC.run1 tab 1000 rfl rfl (by first | exact True.intro | (simp only [Conds, rng, Int.toNat_natCast, List.length_append, bytesV_length] <;> omega) | (simp [Conds, rng] <;> omega) | (simp only [Conds, rng, wrap_u8, wrap_u16, wrap_u32, wrap_u64] <;> omega)) ?_) | (refine MC.la true (la_load1 hs rfl (by rfl)) rfl ?_))
  refine MC.does true (does_call rfl (hready)) rfl ?_
  rintro _ w' ⟨rfl, rfl⟩
  repeat (first | (refine MC.run1 tab 1000 rfl rfl (by first | exact True.intro | (simp only [Conds, rng, Int.toNat_natCast, List.length_append, bytesV_length] <;> omega) | (simp [Conds, rng] <;> omega) | (simp only [Conds, rng, wrap_u8, wrap_u16, wrap_u32, wrap_u64] <;> omega)) ?_) | (refine MC.la true (la_load1 hs rfl (by rfl)) rfl ?_))
  refine MC.cond rfl (fun h => ?_) (fun h => ?_)
  · repeat (first | (refine MC.run1 tab 1000 rfl rfl (by first | exact True.intro | (simp only [Conds, rng, Int.toNat_natCast, List.length_append, bytesV_length] <;> omega) | (simp [Conds, rng] <;> omega) | (simp only [Conds, rng, wrap_u8, wrap_u16, wrap_u32, wrap_u64] <;> omega)) ?_) | (refine MC.la true (la_load1 hs rfl (by rfl)) rfl ?_))
    refine MC.ret rfl ?_
    exact ⟨rfl, by rw [if_neg h]; exact hs⟩
  · have h := Decidable.not_not.1 h
    rw [if_pos h]
    obtain ⟨hk0, hk1, hb, hf⟩ := Dev.wrong_zero.1 h
    obtain ⟨vs, vo, hs⟩ := dev_open hs
    have hne : ∃ b o, q = some ⟨b, o, none⟩ ∧ Rd F b o (bytesV l) := by
      obtain ⟨q', c', e, h1, h2, h3⟩ := hl
      injection e with e1 e2 e3
      subst e1
      exact h3 (by omega)
    obtain ⟨b, o, rfl, hr⟩ := hne
    repeat (first | (refine MC.run1 tab 1000 rfl rfl (by first | exact True.intro | (simp only [Conds, rng, Int.toNat_natCast, List.length_append, bytesV_length] <;> omega) | (simp [Conds, rng] <;> omega) | (simp only [Conds, rng, wrap_u8, wrap_u16, wrap_u32, wrap_u64] <;> omega)) ?_) | (refine MC.la true (la_load1 hs rfl (by rfl)) rfl ?_))
    refine MC.draw hs [0,1,2,3,4,5,6,7,8,9,10,11,12,13,14] (by rfl) ?_; intro w hs
    repeat (first | (refine MC.run1 tab 1000 rfl rfl (by first | exact True.intro | (simp only [Conds, rng, Int.toNat_natCast, List.length_append, bytesV_length] <;> omega) | (simp [Conds, rng] <;> omega) | (simp only [Conds, rng, wrap_u8, wrap_u16, wrap_u32, wrap_u64] <;> omega)) ?_) | (refine MC.laD true (la_load1 hs rfl (by rfl)) rfl ?_))
    refine MC.pure (f := true) (po_arrayAt (n := 256) rfl (by omega)) rfl ?_
    have hl256 : (bytesV l).length = 256 := by rw [bytesV_length]; omega
    refine MC.laD true (la_loadV_rd hr hs (j := 0) rfl (vs := bytesV l) (List.take_of_length_le (by simpa using Nat.le_of_eq hl256)) hl256 rfl) rfl ?_
    refine MC.pure (f := true) (po_build (ls := [(0, [int k]), (1, bytesV l)]) (out := int k :: bytesV l) rfl rfl (by exact ⟨⟨0, rfl, by simp⟩, ⟨1, congrArg (fun n => some (1, n)) hl256.symm, by simp [hl256]⟩, trivial⟩) (by exact congrArg some (build_write hl256 (by simp)))) rfl ?_
    refine MC.doesK true (does_buildSlice (ls := [(0, int k :: bytesV l)]) (out := int k :: bytesV l) hs rfl rfl (by exact ⟨⟨0, by simp only [List.length_cons, hl256, Nat.zero_mul], by simp only [List.length_cons, hl256, rep_length, List.length_append, reps_length, Nat.one_mul] <;> omega⟩, trivial⟩) (by exact congrArg some (splice_all (by simp [hl256, rep]))) (by rfl)) rfl rfl rfl ?_
    rintro _ w ⟨b1, rfl, hs⟩
    refine ⟨⟨Suf.sat hs, At.sat hs, trivial⟩, ?_⟩
    refine MC.doesK true (does_append hs rfl rfl (src_at (by simp [hl256]) (one_cons (bytesV_one l))) (by omega) (by omega)) rfl rfl rfl ?_
    intro va w hs
    refine ⟨⟨Suf.sat hs, At.sat hs, trivial⟩, ?_⟩
    obtain ⟨_, qa, ca, rfl, hca⟩ := (hs.pull 3 rfl).sl_len
    repeat (first | (refine MC.run1 tab 1000 rfl rfl (by first | exact True.intro | (simp only [Conds, rng, Int.toNat_natCast, List.length_append, bytesV_length] <;> omega) | (simp [Conds, rng] <;> omega) | (simp only [Conds, rng, wrap_u8, wrap_u16, wrap_u32, wrap_u64] <;> omega)) ?_) | (refine MC.laD true (la_load1 hs rfl (by rfl)) rfl ?_))
    refine MC.doesD true (does_store1 hs rfl rfl rfl (by first | decide | (simp; done) | (simp; omega))) rfl rfl rfl rfl ?_; intro _ w hs
    repeat (first | (refine MC.run1 tab 1000 rfl rfl (by first | exact True.intro | (simp only [Conds, rng, Int.toNat_natCast, List.length_append, bytesV_length] <;> omega) | (simp [Conds, rng] <;> omega) | (simp only [Conds, rng, wrap_u8, wrap_u16, wrap_u32, wrap_u64] <;> omega)) ?_) | (refine MC.la true (la_load1 hs rfl (by rfl)) rfl ?_))
    have e : opV D.O ++ int k :: bytesV l = opV (D.O ++ [(k.toNat, l)]) := by rw [opV_append, opV_one, Int.toNat_of_nonneg hk0]
    rw [e] at hs
    have hs2 : Sat (dev p { D with O := D.O ++ [(k.toNat, l)] } :: F) w := dev_shut (vs := vs) (vo := .slice qa (D.O.length + 1) ca) (by simpa using hs.tail)
    have hD2 : ({ D with O := D.O ++ [(k.toNat, l)] } : Dev).ok := { hD with op := (Dev.write_ok hD (by omega) (by omega)).op }
    refine MC.does true (does_call rfl (burn_spec hs2 hD2)) rfl ?_
    intro _ w hs
    repeat (first | (refine MC.run1 tab 1000 rfl rfl (by first | exact True.intro | (simp only [Conds, rng, Int.toNat_natCast, List.length_append, bytesV_length] <;> omega) | (simp [Conds, rng] <;> omega) | (simp only [Conds, rng, wrap_u8, wrap_u16, wrap_u32, wrap_u64] <;> omega)) ?_) | (refine MC.la true (la_load1 hs rfl (by rfl)) rfl ?_))
    refine MC.ret rfl ?_
    exact ⟨by rw [h]; rfl, hs⟩
end Go.Proofs.YtoigogonccjagaaDoor
