/- The device: what a pointer to one says of the heap; its small functions. -/
import Derived.Test.YtoigogonccjagaaDoorTy
set_option linter.unusedVariables false
set_option linter.unusedSimpArgs false
namespace Go.Proofs.YtoigogonccjagaaDoor
open Go Go.Sl
attribute [local irreducible] LooksAt

abbrev ptr (p : Nat) : Value := .pointer (some ⟨p, 0, none⟩)
abbrev int (n : Int) : Value := .int .i64 n
abbrev bool (b : Bool) : Value := .bool b

structure Dev where
  S : List (List UInt8)
  O : List (Nat × List UInt8)
  reads : Int
  fuse : Int
structure Dev.ok (D : Dev) : Prop where
  pos : 0 < D.S.length
  few : D.S.length ≤ 8192
  sec : ∀ s ∈ D.S, s.length = 256
  op : ∀ x ∈ D.O, x.2.length = 256 ∧ x.1 < D.S.length
  fuse0 : 0 ≤ D.fuse
  fuse1 : D.fuse ≤ 2305843009213693952
def secV (S : List (List UInt8)) : List Value := S.flatMap bytesV
def opB (x : Nat × List UInt8) : List Value := .int .i64 (x.1 : Int) :: bytesV x.2
def opV (O : List (Nat × List UInt8)) : List Value := O.flatMap opB
/-- A device that lies at block p. -/
def dev (p : Nat) (D : Dev) : Assn := Sl.ex fun vs : Value => Sl.ex fun vo : Value => star [blk p [vs, vo, .int .i64 D.reads, .int .i64 D.fuse] 43, sl vs 81 256 D.S.length (secV D.S), sl vo 83 257 D.O.length (opV D.O)]
section
variable {F : List Assn} {p : Nat} {D : Dev} {w : World}
theorem dev_open (hs : Sat (dev p D :: F) w) : ∃ vs vo, Sat (blk p [vs, vo, .int .i64 D.reads, .int .i64 D.fuse] 43 :: sl vs 81 256 D.S.length (secV D.S) :: sl vo 83 257 D.O.length (opV D.O) :: F) w := by
  obtain ⟨vs, hs⟩ := Sat.ex_iff.1 hs
  obtain ⟨vo, hs⟩ := Sat.ex_iff.1 hs
  exact ⟨vs, vo, hs.unstar⟩
theorem dev_shut {vs vo : Value} (hs : Sat (blk p [vs, vo, .int .i64 D.reads, .int .i64 D.fuse] 43 :: sl vs 81 256 D.S.length (secV D.S) :: sl vo 83 257 D.O.length (opV D.O) :: F) w) : Sat (dev p D :: F) w :=
  Sat.ex_iff.2 ⟨vs, Sat.ex_iff.2 ⟨vo, Sat.restar (l := [_, _, _]) hs⟩⟩
end

theorem size_spec {F : List Assn} {p : Nat} {D : Dev} {w : World} (hs : Sat (dev p D :: F) w) :
    Ret Tryd.prog 35 [ptr p] w fun v w' => v = int D.S.length ∧ w' = w := by
  obtain ⟨vs, vo, hs⟩ := dev_open hs
  obtain ⟨_, q, c, rfl, hc⟩ := (hs.pull 1 rfl).sl_len
  refine Ret.enter [(true, ptr p)] _ Tryd.func35 rfl Tryd.ntmps35 rfl ?_
  repeat (first | (refine MC.run1 tab 1000 rfl rfl (by first | exact True.intro | (simp only [Conds, rng, Int.toNat_natCast, List.length_append, bytesV_length] <;> omega) | (simp [Conds, rng] <;> omega) | (simp only [Conds, rng, wrap_u8, wrap_u16, wrap_u32, wrap_u64] <;> omega)) ?_) | (refine MC.la true (la_load1 hs rfl (by rfl)) rfl ?_))
  refine MC.ret rfl ?_
  exact ⟨rfl, rfl⟩
theorem size_nil {w : World} : Ret Tryd.prog 35 [.pointer none] w fun v w' => v = int 0 ∧ w' = w := by
  refine Ret.enter [(true, .pointer none)] _ Tryd.func35 rfl Tryd.ntmps35 rfl ?_
  repeat (first | (refine MC.run1 tab 1000 rfl rfl (by first | exact True.intro | (simp only [Conds, rng, Int.toNat_natCast, List.length_append, bytesV_length] <;> omega) | (simp [Conds, rng] <;> omega) | (simp only [Conds, rng, wrap_u8, wrap_u16, wrap_u32, wrap_u64] <;> omega)) ?_) | (refine MC.la true (la_load1 hs rfl (by rfl)) rfl ?_))
  refine MC.ret rfl ?_
  exact ⟨rfl, rfl⟩

/-- What is wrong with a call about a sector. -/
def Dev.wrong (D : Dev) (k : Int) (b : Int) : Int := if k < 0 ∨ (D.S.length : Int) ≤ k then 4 else if b ≠ 256 then 2 else if D.fuse = 1 then 150 else 0
theorem ready_spec {F : List Assn} {p : Nat} {D : Dev} {w : World} (hs : Sat (dev p D :: F) w) (hD : D.ok) (k b : Int) :
    Ret Tryd.prog 55 [ptr p, int k, int b] w fun v w' => v = int (D.wrong k b) ∧ w' = w := by
  have hsz := size_spec hs
  obtain ⟨vs, vo, hs⟩ := dev_open hs
  obtain ⟨_, q, c, rfl, hc⟩ := (hs.pull 1 rfl).sl_len
  have hpos := hD.pos
  refine Ret.enter [(true, ptr p), (true, int k), (true, int b)] _ Tryd.func55 rfl Tryd.ntmps55 rfl ?_
  repeat (first | (refine MC.run1 tab 1000 rfl rfl (by first | exact True.intro | (simp only [Conds, rng, Int.toNat_natCast, List.length_append, bytesV_length] <;> omega) | (simp [Conds, rng] <;> omega) | (simp only [Conds, rng, wrap_u8, wrap_u16, wrap_u32, wrap_u64] <;> omega)) ?_) | (refine MC.la true (la_load1 hs rfl (by rfl)) rfl ?_))
  refine MC.does true (does_call rfl (hsz)) rfl ?_
  rintro _ w' ⟨rfl, rfl⟩
  repeat (first | (refine MC.run1 tab 1000 rfl rfl (by first | exact True.intro | (simp only [Conds, rng, Int.toNat_natCast, List.length_append, bytesV_length] <;> omega) | (simp [Conds, rng] <;> omega) | (simp only [Conds, rng, wrap_u8, wrap_u16, wrap_u32, wrap_u64] <;> omega)) ?_) | (refine MC.la true (la_load1 hs rfl (by rfl)) rfl ?_))
  refine MC.cond rfl (fun h => absurd h (by omega)) (fun _ => ?_)
  repeat (first | (refine MC.run1 tab 1000 rfl rfl (by first | exact True.intro | (simp only [Conds, rng, Int.toNat_natCast, List.length_append, bytesV_length] <;> omega) | (simp [Conds, rng] <;> omega) | (simp only [Conds, rng, wrap_u8, wrap_u16, wrap_u32, wrap_u64] <;> omega)) ?_) | (refine MC.la true (la_load1 hs rfl (by rfl)) rfl ?_))
  refine MC.part rfl rfl (fun h1 => ?_) (fun h1 => ?_)
  · repeat (first | (refine MC.run1 tab 1000 rfl rfl (by first | exact True.intro | (simp only [Conds, rng, Int.toNat_natCast, List.length_append, bytesV_length] <;> omega) | (simp [Conds, rng] <;> omega) | (simp only [Conds, rng, wrap_u8, wrap_u16, wrap_u32, wrap_u64] <;> omega)) ?_) | (refine MC.la true (la_load1 hs rfl (by rfl)) rfl ?_))
    refine MC.ret rfl ?_
    exact ⟨by simp [Dev.wrong, h1, tup], rfl⟩
  repeat (first | (refine MC.run1 tab 1000 rfl rfl (by first | exact True.intro | (simp only [Conds, rng, Int.toNat_natCast, List.length_append, bytesV_length] <;> omega) | (simp [Conds, rng] <;> omega) | (simp only [Conds, rng, wrap_u8, wrap_u16, wrap_u32, wrap_u64] <;> omega)) ?_) | (refine MC.la true (la_load1 hs rfl (by rfl)) rfl ?_))
  refine MC.cond rfl (fun h2 => ?_) (fun h2 => ?_)
  · repeat (first | (refine MC.run1 tab 1000 rfl rfl (by first | exact True.intro | (simp only [Conds, rng, Int.toNat_natCast, List.length_append, bytesV_length] <;> omega) | (simp [Conds, rng] <;> omega) | (simp only [Conds, rng, wrap_u8, wrap_u16, wrap_u32, wrap_u64] <;> omega)) ?_) | (refine MC.la true (la_load1 hs rfl (by rfl)) rfl ?_))
    refine MC.ret rfl ?_
    exact ⟨by simp [Dev.wrong, h2, tup], rfl⟩
  repeat (first | (refine MC.run1 tab 1000 rfl rfl (by first | exact True.intro | (simp only [Conds, rng, Int.toNat_natCast, List.length_append, bytesV_length] <;> omega) | (simp [Conds, rng] <;> omega) | (simp only [Conds, rng, wrap_u8, wrap_u16, wrap_u32, wrap_u64] <;> omega)) ?_) | (refine MC.la true (la_load1 hs rfl (by rfl)) rfl ?_))
  refine MC.cond rfl (fun h3 => ?_) (fun h3 => ?_)
  · repeat (first | (refine MC.run1 tab 1000 rfl rfl (by first | exact True.intro | (simp only [Conds, rng, Int.toNat_natCast, List.length_append, bytesV_length] <;> omega) | (simp [Conds, rng] <;> omega) | (simp only [Conds, rng, wrap_u8, wrap_u16, wrap_u32, wrap_u64] <;> omega)) ?_) | (refine MC.la true (la_load1 hs rfl (by rfl)) rfl ?_))
    refine MC.ret rfl ?_
    exact ⟨by simp [Dev.wrong, h1, h2, h3, tup], rfl⟩
  repeat (first | (refine MC.run1 tab 1000 rfl rfl (by first | exact True.intro | (simp only [Conds, rng, Int.toNat_natCast, List.length_append, bytesV_length] <;> omega) | (simp [Conds, rng] <;> omega) | (simp only [Conds, rng, wrap_u8, wrap_u16, wrap_u32, wrap_u64] <;> omega)) ?_) | (refine MC.la true (la_load1 hs rfl (by rfl)) rfl ?_))
  refine MC.cond rfl (fun h4 => ?_) (fun h4 => ?_)
  · repeat (first | (refine MC.run1 tab 1000 rfl rfl (by first | exact True.intro | (simp only [Conds, rng, Int.toNat_natCast, List.length_append, bytesV_length] <;> omega) | (simp [Conds, rng] <;> omega) | (simp only [Conds, rng, wrap_u8, wrap_u16, wrap_u32, wrap_u64] <;> omega)) ?_) | (refine MC.la true (la_load1 hs rfl (by rfl)) rfl ?_))
    refine MC.ret rfl ?_
    exact ⟨by simp [Dev.wrong, h1, h2, Decidable.not_not.1 h3, h4, tup], rfl⟩
  repeat (first | (refine MC.run1 tab 1000 rfl rfl (by first | exact True.intro | (simp only [Conds, rng, Int.toNat_natCast, List.length_append, bytesV_length] <;> omega) | (simp [Conds, rng] <;> omega) | (simp only [Conds, rng, wrap_u8, wrap_u16, wrap_u32, wrap_u64] <;> omega)) ?_) | (refine MC.la true (la_load1 hs rfl (by rfl)) rfl ?_))
  refine MC.ret rfl ?_
  exact ⟨by simp [Dev.wrong, h1, h2, Decidable.not_not.1 h3, h4, tup], rfl⟩

def burnt (f : Int) : Int := if 1 < f then f - 1 else f
theorem burn_spec {F : List Assn} {p : Nat} {D : Dev} {w : World} (hs : Sat (dev p D :: F) w) (hD : D.ok) :
    Ret Tryd.prog 69 [ptr p] w fun _ w' => Sat (dev p { D with fuse := burnt D.fuse } :: F) w' := by
  obtain ⟨vs, vo, hs⟩ := dev_open hs
  have h0 := hD.fuse0
  have h1 := hD.fuse1
  refine Ret.enter [(true, ptr p)] _ Tryd.func69 rfl Tryd.ntmps69 rfl ?_
  repeat (first | (refine MC.run1 tab 1000 rfl rfl (by first | exact True.intro | (simp only [Conds, rng, Int.toNat_natCast, List.length_append, bytesV_length] <;> omega) | (simp [Conds, rng] <;> omega) | (simp only [Conds, rng, wrap_u8, wrap_u16, wrap_u32, wrap_u64] <;> omega)) ?_) | (refine MC.la true (la_load1 hs rfl (by rfl)) rfl ?_))
  refine MC.cond rfl (fun h => ?_) (fun h => ?_)
  · repeat (first | (refine MC.run1 tab 1000 rfl rfl (by first | exact True.intro | (simp only [Conds, rng, Int.toNat_natCast, List.length_append, bytesV_length] <;> omega) | (simp [Conds, rng] <;> omega) | (simp only [Conds, rng, wrap_u8, wrap_u16, wrap_u32, wrap_u64] <;> omega)) ?_) | (refine MC.la true (la_load1 hs rfl (by rfl)) rfl ?_))
    refine MC.does true (does_store1 hs rfl rfl rfl (by first | decide | (simp; done) | (simp; omega))) rfl ?_; intro _ w hs
    repeat (first | (refine MC.run1 tab 1000 rfl rfl (by first | exact True.intro | (simp only [Conds, rng, Int.toNat_natCast, List.length_append, bytesV_length] <;> omega) | (simp [Conds, rng] <;> omega) | (simp only [Conds, rng, wrap_u8, wrap_u16, wrap_u32, wrap_u64] <;> omega)) ?_) | (refine MC.la true (la_load1 hs rfl (by rfl)) rfl ?_))
    refine MC.end_ rfl ?_
    refine dev_shut (vs := vs) (vo := vo) ?_
    rw [show burnt D.fuse = D.fuse - 1 from if_pos h]
    exact hs
  · repeat (first | (refine MC.run1 tab 1000 rfl rfl (by first | exact True.intro | (simp only [Conds, rng, Int.toNat_natCast, List.length_append, bytesV_length] <;> omega) | (simp [Conds, rng] <;> omega) | (simp only [Conds, rng, wrap_u8, wrap_u16, wrap_u32, wrap_u64] <;> omega)) ?_) | (refine MC.la true (la_load1 hs rfl (by rfl)) rfl ?_))
    refine MC.end_ rfl ?_
    refine dev_shut (vs := vs) (vo := vo) ?_
    rw [show burnt D.fuse = D.fuse from if_neg h]
    exact hs

def Dev.cut (D : Dev) (n : Int) : Dev := if n < 0 then D else { D with fuse := min n 1152921504606846976 + 1 }
theorem cut_spec {F : List Assn} {p : Nat} {D : Dev} {w : World} (hs : Sat (dev p D :: F) w) (hD : D.ok) (n : Int) :
    Ret Tryd.prog 24 [ptr p, int n] w fun v w' => v = int (if n < 0 then 2 else 0) ∧ Sat (dev p (D.cut n) :: F) w' := by
  have hsz := size_spec hs
  have hpos := hD.pos
  refine Ret.enter [(true, ptr p), (true, int n)] _ Tryd.func24 rfl Tryd.ntmps24 rfl ?_
  repeat (first | (refine MC.run1 tab 1000 rfl rfl (by first | exact True.intro | (simp only [Conds, rng, Int.toNat_natCast, List.length_append, bytesV_length] <;> omega) | (simp [Conds, rng] <;> omega) | (simp only [Conds, rng, wrap_u8, wrap_u16, wrap_u32, wrap_u64] <;> omega)) ?_) | (refine MC.la true (la_load1 hs rfl (by rfl)) rfl ?_))
  refine MC.does true (does_call rfl (hsz)) rfl ?_
  rintro _ w' ⟨rfl, rfl⟩
  repeat (first | (refine MC.run1 tab 1000 rfl rfl (by first | exact True.intro | (simp only [Conds, rng, Int.toNat_natCast, List.length_append, bytesV_length] <;> omega) | (simp [Conds, rng] <;> omega) | (simp only [Conds, rng, wrap_u8, wrap_u16, wrap_u32, wrap_u64] <;> omega)) ?_) | (refine MC.la true (la_load1 hs rfl (by rfl)) rfl ?_))
  refine MC.cond rfl (fun h => absurd h (by omega)) (fun _ => ?_)
  repeat (first | (refine MC.run1 tab 1000 rfl rfl (by first | exact True.intro | (simp only [Conds, rng, Int.toNat_natCast, List.length_append, bytesV_length] <;> omega) | (simp [Conds, rng] <;> omega) | (simp only [Conds, rng, wrap_u8, wrap_u16, wrap_u32, wrap_u64] <;> omega)) ?_) | (refine MC.la true (la_load1 hs rfl (by rfl)) rfl ?_))
  refine MC.cond rfl (fun h => ?_) (fun h => ?_)
  · repeat (first | (refine MC.run1 tab 1000 rfl rfl (by first | exact True.intro | (simp only [Conds, rng, Int.toNat_natCast, List.length_append, bytesV_length] <;> omega) | (simp [Conds, rng] <;> omega) | (simp only [Conds, rng, wrap_u8, wrap_u16, wrap_u32, wrap_u64] <;> omega)) ?_) | (refine MC.la true (la_load1 hs rfl (by rfl)) rfl ?_))
    refine MC.ret rfl ?_
    exact ⟨by simp [h, tup], by simpa [Dev.cut, h] using hs⟩
  · obtain ⟨vs, vo, hs⟩ := dev_open hs
    repeat (first | (refine MC.run1 tab 1000 rfl rfl (by first | exact True.intro | (simp only [Conds, rng, Int.toNat_natCast, List.length_append, bytesV_length] <;> omega) | (simp [Conds, rng] <;> omega) | (simp only [Conds, rng, wrap_u8, wrap_u16, wrap_u32, wrap_u64] <;> omega)) ?_) | (refine MC.la true (la_load1 hs rfl (by rfl)) rfl ?_))
    refine MC.does true (does_store1 hs rfl rfl rfl (by first | decide | (simp; done) | (simp; omega))) rfl ?_; intro _ w hs
    repeat (first | (refine MC.run1 tab 1000 rfl rfl (by first | exact True.intro | (simp only [Conds, rng, Int.toNat_natCast, List.length_append, bytesV_length] <;> omega) | (simp [Conds, rng] <;> omega) | (simp only [Conds, rng, wrap_u8, wrap_u16, wrap_u32, wrap_u64] <;> omega)) ?_) | (refine MC.la true (la_load1 hs rfl (by rfl)) rfl ?_))
    refine MC.ret rfl ?_
    refine ⟨by simp [h, tup], ?_⟩
    refine dev_shut (vs := vs) (vo := vo) ?_
    simp only [Dev.cut, h, if_false]
    exact hs
end Go.Proofs.YtoigogonccjagaaDoor
