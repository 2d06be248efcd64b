/- Tokens: the walk of parts. -/
import Derived.Test.YtcahpllliflloaaLa
set_option linter.unusedVariables false
set_option linter.unusedSimpArgs false
namespace Go.Proofs.Ytcahpllliflloaa
open Go Go.Sl Go.Tk
attribute [local irreducible] LooksAt

open Classical in
noncomputable def partsQ (q : Bs) : Pa := if Whole q then partsR (nextD 47) q 1 1 else ([], [], [])
open Classical in
noncomputable def errQ (q : Bs) : Int := if Whole q then 0 else 20
theorem partsP_one {F : List Assn} {q : Bs} {v : Value} {w : World} (h : partsP F q v w) : ∃ va vb vc, v = .tuple #[va, vb, vc, int (errQ q)] ∧ Sat (strsS va (partsQ q).1 :: strsS vb (partsQ q).2.1 :: natsS vc (partsQ q).2.2 :: F) w := by
  rcases h with ⟨hW, va, vb, vc, rfl, hs⟩ | ⟨hW, rfl, hs⟩
  · unfold partsQ errQ
    rw [if_pos hW, if_pos hW]
    exact ⟨va, vb, vc, rfl, hs⟩
  · unfold partsQ errQ
    rw [if_neg hW, if_neg hW]
    have hs := (hs.sl_nil 3 1)
    have hs := (hs.sl_nil 9 1)
    have hs := (hs.sl_nil 9 1)
    exact ⟨_, _, _, rfl, hs⟩
theorem partsQ_bd (q : Bs) : (partsQ q).1.length ≤ 16384 ∧ (partsQ q).2.1.length = (partsQ q).2.2.length ∧ (partsQ q).2.2.length ≤ 16384 := by
  unfold partsQ
  by_cases hW : Whole q
  · rw [if_pos hW]
    obtain ⟨hqr, hq2⟩ := whole_inner hW
    have := partsR_bd _ 1 1 (Nat.lt_succ_self _) (by omega) hqr
    have := hW.1
    omega
  · rw [if_neg hW]
    exact ⟨Nat.zero_le _, rfl, Nat.zero_le _⟩
theorem natsV_at (l : List Nat) (i : Nat) (h : i < l.length) : (natsV l)[((i : Nat) : Int).toNat * 1]? = some (int ((l[i] : Nat) : Int)) := by
  rw [Int.toNat_natCast, Nat.mul_one]; simp [natsV, h]
theorem strsV_at' (l : List Bs) (i : Nat) (h : i < l.length) : (strsV l)[((i : Nat) : Int).toNat * 1]? = some (str l[i]) := by
  rw [Int.toNat_natCast, Nat.mul_one]; simp [strsV, h]
set_option maxHeartbeats 4000000 in
theorem parts_walk {F : List Assn} {w : World} (q : Bs) (hs : Sat F w) (hM : MaxC F) (hl : q.length ≤ 9223372036854775807) :
    Ret Try.prog 8 [str q] w fun v w' => v = bool true ∧ Sat F w' := by
  refine Ret.enter [(true, str q)] _ Try.func8 rfl Try.ntmps8 rfl ?_
  by_cases hmid : 1500 < q.length ∧ q.length ≤ 16384
  · have hmid1 := hmid.1
    have hmid2 := hmid.2
    have hwk := works_spec hs hM
    repeat (first | (refine MC.run1 tab 1000 rfl rfl (by first | exact True.intro | (simp only [Conds, rng, Int.toNat_natCast, List.length_append, bytesV_length] <;> omega) | (simp [Conds, rng] <;> omega) | (simp only [Conds, rng, wrap_u8, wrap_u16, wrap_u32, wrap_u64] <;> omega)) ?_) | (refine MC.la true (la_load1 hs rfl (by rfl)) rfl ?_) | (refine MC.part rfl rfl (fun h => absurd h (by first | decide | omega)) (fun _ => ?_)) | (refine MC.part rfl rfl (fun _ => ?_) (fun h => absurd (by first | decide | omega) h)) | (refine MC.cond rfl (fun h => absurd h (by first | decide | omega)) (fun _ => ?_)) | (refine MC.cond rfl (fun _ => ?_) (fun h => absurd (by first | decide | omega) h)))
    refine MC.does true (does_call rfl (hwk)) rfl ?_
    rintro _ w ⟨rfl, hs⟩
    repeat (first | (refine MC.run1 tab 1000 rfl rfl (by first | exact True.intro | (simp only [Conds, rng, Int.toNat_natCast, List.length_append, bytesV_length] <;> omega) | (simp [Conds, rng] <;> omega) | (simp only [Conds, rng, wrap_u8, wrap_u16, wrap_u32, wrap_u64] <;> omega)) ?_) | (refine MC.la true (la_load1 hs rfl (by rfl)) rfl ?_) | (refine MC.part rfl rfl (fun h => absurd h (by first | decide | omega)) (fun _ => ?_)) | (refine MC.part rfl rfl (fun _ => ?_) (fun h => absurd (by first | decide | omega) h)) | (refine MC.cond rfl (fun h => absurd h (by first | decide | omega)) (fun _ => ?_)) | (refine MC.cond rfl (fun _ => ?_) (fun h => absurd (by first | decide | omega) h)))
    refine MC.ret rfl ?_
    exact ⟨rfl, hs⟩
  have h1 := (parts_spec q hs hM hl).mono fun v w' h => partsP_one h
  have hbd := partsQ_bd q
  obtain ⟨E, hE⟩ : ∃ E, errQ q = E := ⟨_, rfl⟩
  have hcut : ¬ (1500 < ((q.length : Nat) : Int)) ∨ ((1500 < ((q.length : Nat) : Int)) ∧ ¬ (((q.length : Nat) : Int) ≤ 16384)) := by omega
  rw [hE] at h1
  rcases hcut with hcut | ⟨hcut, hcut2⟩ <;>
  · repeat (first | (refine MC.run1 tab 1000 rfl rfl (by first | exact True.intro | (simp only [Conds, rng, Int.toNat_natCast, List.length_append, bytesV_length] <;> omega) | (simp [Conds, rng] <;> omega) | (simp only [Conds, rng, wrap_u8, wrap_u16, wrap_u32, wrap_u64] <;> omega)) ?_) | (refine MC.la true (la_load1 hs rfl (by rfl)) rfl ?_) | (refine MC.part rfl rfl (fun h => absurd h (by first | decide | omega)) (fun _ => ?_)) | (refine MC.part rfl rfl (fun _ => ?_) (fun h => absurd (by first | decide | omega) h)) | (refine MC.cond rfl (fun h => absurd h (by first | decide | omega)) (fun _ => ?_)) | (refine MC.cond rfl (fun _ => ?_) (fun h => absurd (by first | decide | omega) h)))
    refine MC.does true (does_call rfl (h1)) rfl ?_
    rintro _ w ⟨va, vb, vc, rfl, hs⟩
    have h2 := (partsD_spec q hs hl).mono fun v w' h => partsP_one h
    rw [hE] at h2
    repeat (first | (refine MC.run1 tab 1000 rfl rfl (by first | exact True.intro | (simp only [Conds, rng, Int.toNat_natCast, List.length_append, bytesV_length] <;> omega) | (simp [Conds, rng] <;> omega) | (simp only [Conds, rng, wrap_u8, wrap_u16, wrap_u32, wrap_u64] <;> omega)) ?_) | (refine MC.la true (la_load1 hs rfl (by rfl)) rfl ?_) | (refine MC.part rfl rfl (fun h => absurd h (by first | decide | omega)) (fun _ => ?_)) | (refine MC.part rfl rfl (fun _ => ?_) (fun h => absurd (by first | decide | omega) h)) | (refine MC.cond rfl (fun h => absurd h (by first | decide | omega)) (fun _ => ?_)) | (refine MC.cond rfl (fun _ => ?_) (fun h => absurd (by first | decide | omega) h)))
    refine MC.does true (does_call rfl (h2)) rfl ?_
    rintro _ w ⟨vd, ve, vf, rfl, hs⟩
    revert hs hbd
    generalize partsQ q = R
    obtain ⟨tt, ff, aa⟩ := R
    intro hbd hs
    replace hbd : tt.length ≤ 16384 ∧ ff.length = aa.length ∧ aa.length ≤ 16384 := hbd
    obtain ⟨hb1, hb2, hb3⟩ := hbd
    replace hs : Sat (strsS vd tt :: strsS ve ff :: natsS vf aa :: strsS va tt :: strsS vb ff :: natsS vc aa :: F) w := hs
    have rd : RdS (strsS vd tt :: strsS ve ff :: natsS vf aa :: strsS va tt :: strsS vb ff :: natsS vc aa :: F) 1 vd tt.length (strsV tt) := RdS.of_sl hs
    have re : RdS (strsS vd tt :: strsS ve ff :: natsS vf aa :: strsS va tt :: strsS vb ff :: natsS vc aa :: F) 1 ve ff.length (strsV ff) := RdS.up (RdS.of_sl hs.tail)
    have rf : RdS (strsS vd tt :: strsS ve ff :: natsS vf aa :: strsS va tt :: strsS vb ff :: natsS vc aa :: F) 1 vf aa.length (natsV aa) := RdS.up (RdS.of_sl hs.tail.tail)
    have ra : RdS (strsS vd tt :: strsS ve ff :: natsS vf aa :: strsS va tt :: strsS vb ff :: natsS vc aa :: F) 1 va tt.length (strsV tt) := RdS.up (RdS.of_sl hs.tail.tail.tail)
    have rb : RdS (strsS vd tt :: strsS ve ff :: natsS vf aa :: strsS va tt :: strsS vb ff :: natsS vc aa :: F) 1 vb ff.length (strsV ff) := RdS.up (RdS.of_sl hs.tail.tail.tail.tail)
    have rc : RdS (strsS vd tt :: strsS ve ff :: natsS vf aa :: strsS va tt :: strsS vb ff :: natsS vc aa :: F) 1 vc aa.length (natsV aa) := RdS.up (RdS.of_sl hs.tail.tail.tail.tail.tail)
    have hMG : MaxC (strsS vd tt :: strsS ve ff :: natsS vf aa :: strsS va tt :: strsS vb ff :: natsS vc aa :: F) := MaxC.up hM
    have hGF : ∀ w, Sat (strsS vd tt :: strsS ve ff :: natsS vf aa :: strsS va tt :: strsS vb ff :: natsS vc aa :: F) w → Sat F w := fun w h => h.tail.tail.tail.tail.tail.tail
    revert rd re rf ra rb rc hMG hGF hs
    generalize (strsS vd tt :: strsS ve ff :: natsS vf aa :: strsS va tt :: strsS vb ff :: natsS vc aa :: F) = G
    intro hsG rd re rf ra rb rc hMG hGF
    obtain ⟨qa, ca, rfl, _, _⟩ := ra.shape
    obtain ⟨qb, cb, rfl, _, _⟩ := rb.shape
    obtain ⟨qc, cc, rfl, _, _⟩ := rc.shape
    obtain ⟨qd, cd, rfl, _, _⟩ := rd.shape
    obtain ⟨qe, ce, rfl, _, _⟩ := re.shape
    obtain ⟨qf, cf, rfl, _, _⟩ := rf.shape
    repeat (first | (refine MC.run1 tab 1000 rfl rfl (by first | exact True.intro | (simp only [Conds, rng, Int.toNat_natCast, List.length_append, bytesV_length] <;> omega) | (simp [Conds, rng] <;> omega) | (simp only [Conds, rng, wrap_u8, wrap_u16, wrap_u32, wrap_u64] <;> omega)) ?_) | (refine MC.la true (la_load1 hs rfl (by rfl)) rfl ?_) | (refine MC.part rfl rfl (fun h => absurd h (by first | decide | omega)) (fun _ => ?_)) | (refine MC.part rfl rfl (fun _ => ?_) (fun h => absurd (by first | decide | omega) h)) | (refine MC.cond rfl (fun h => absurd h (by first | decide | omega)) (fun _ => ?_)) | (refine MC.cond rfl (fun _ => ?_) (fun h => absurd (by first | decide | omega) h)))
    refine MC.loop (σ := Nat) (fun i => [(3, true, .slice qa tt.length ca), (4, true, .slice qb ff.length cb), (5, true, .slice qc aa.length cc), (7, true, .slice qd tt.length cd), (8, true, .slice qe ff.length ce), (9, true, .slice qf aa.length cf), (61, true, int ((tt.length : Nat) : Int)), (62, true, int ((i : Nat) : Int))])
      (fun i w => i ≤ tt.length ∧ Sat G w) (fun i => tt.length - i) 0 (by repeat (first | exact trivial | refine ⟨rfl, ?_⟩)) ⟨Nat.zero_le _, hsG⟩ ?_
    rintro i w hx
    clear hs
    obtain ⟨hi, hs⟩ := hx
    rcases Nat.lt_or_ge i tt.length with hlt | hge
    · obtain ⟨ba, oa, rfl, hra⟩ := ra.at_ (by omega)
      obtain ⟨bd, od, rfl, hrd⟩ := rd.at_ (by omega)
      have e1 := strsV_at' tt i hlt
      repeat (first | (refine MC.run1 tab 1000 rfl rfl (by first | exact True.intro | (simp only [Conds, rng, Int.toNat_natCast, List.length_append, bytesV_length] <;> omega) | (simp [Conds, rng] <;> omega) | (simp only [Conds, rng, wrap_u8, wrap_u16, wrap_u32, wrap_u64] <;> omega)) ?_) | (refine MC.la true (la_load1 hs rfl (by rfl)) rfl ?_) | (refine MC.part rfl rfl (fun h => absurd h (by first | decide | omega)) (fun _ => ?_)) | (refine MC.part rfl rfl (fun _ => ?_) (fun h => absurd (by first | decide | omega) h)) | (refine MC.cond rfl (fun h => absurd h (by first | decide | omega)) (fun _ => ?_)) | (refine MC.cond rfl (fun _ => ?_) (fun h => absurd (by first | decide | omega) h)))
      refine MC.draw hs [0,1,2,3,4,5,6,7,8] (by rfl) ?_; intro w hs
      repeat (first | (refine MC.run1 tab 1000 rfl rfl (by first | exact True.intro | (simp only [Conds, rng, Int.toNat_natCast, List.length_append, bytesV_length] <;> omega) | (simp [Conds, rng] <;> omega) | (simp only [Conds, rng, wrap_u8, wrap_u16, wrap_u32, wrap_u64] <;> omega)) ?_) | (refine MC.laD true (la_load1 hs rfl (by rfl)) rfl ?_) | (refine MC.part rfl rfl (fun h => absurd h (by first | decide | omega)) (fun _ => ?_)) | (refine MC.part rfl rfl (fun _ => ?_) (fun h => absurd (by first | decide | omega) h)) | (refine MC.cond rfl (fun h => absurd h (by first | decide | omega)) (fun _ => ?_)) | (refine MC.cond rfl (fun _ => ?_) (fun h => absurd (by first | decide | omega) h)))
      refine MC.laD true (la_load1_rd hra hs (j := ((i : Nat) : Int).toNat * 1) rfl e1) rfl ?_
      repeat (first | (refine MC.run1 tab 1000 rfl rfl (by first | exact True.intro | (simp only [Conds, rng, Int.toNat_natCast, List.length_append, bytesV_length] <;> omega) | (simp [Conds, rng] <;> omega) | (simp only [Conds, rng, wrap_u8, wrap_u16, wrap_u32, wrap_u64] <;> omega)) ?_) | (refine MC.laD true (la_load1 hs rfl (by rfl)) rfl ?_) | (refine MC.part rfl rfl (fun h => absurd h (by first | decide | omega)) (fun _ => ?_)) | (refine MC.part rfl rfl (fun _ => ?_) (fun h => absurd (by first | decide | omega) h)) | (refine MC.cond rfl (fun h => absurd h (by first | decide | omega)) (fun _ => ?_)) | (refine MC.cond rfl (fun _ => ?_) (fun h => absurd (by first | decide | omega) h)))
      refine MC.laD true (la_load1_rd hrd hs (j := ((i : Nat) : Int).toNat * 1) rfl e1) rfl ?_
      repeat (first | (refine MC.run1 tab 1000 rfl rfl (by first | exact True.intro | (simp only [Conds, rng, Int.toNat_natCast, List.length_append, bytesV_length] <;> omega) | (simp [Conds, rng] <;> omega) | (simp only [Conds, rng, wrap_u8, wrap_u16, wrap_u32, wrap_u64] <;> omega)) ?_) | (refine MC.laD true (la_load1 hs rfl (by rfl)) rfl ?_) | (refine MC.part rfl rfl (fun h => absurd h (by first | decide | omega)) (fun _ => ?_)) | (refine MC.part rfl rfl (fun _ => ?_) (fun h => absurd (by first | decide | omega) h)) | (refine MC.cond rfl (fun h => absurd h (by first | decide | omega)) (fun _ => ?_)) | (refine MC.cond rfl (fun _ => ?_) (fun h => absurd (by first | decide | omega) h)))
      refine MC.cond rfl (fun h => absurd rfl h) (fun _ => ?_)
      repeat (first | (refine MC.run1 tab 1000 rfl rfl (by first | exact True.intro | (simp only [Conds, rng, Int.toNat_natCast, List.length_append, bytesV_length] <;> omega) | (simp [Conds, rng] <;> omega) | (simp only [Conds, rng, wrap_u8, wrap_u16, wrap_u32, wrap_u64] <;> omega)) ?_) | (refine MC.la true (la_load1 hs rfl (by rfl)) rfl ?_) | (refine MC.part rfl rfl (fun h => absurd h (by first | decide | omega)) (fun _ => ?_)) | (refine MC.part rfl rfl (fun _ => ?_) (fun h => absurd (by first | decide | omega) h)) | (refine MC.cond rfl (fun h => absurd h (by first | decide | omega)) (fun _ => ?_)) | (refine MC.cond rfl (fun _ => ?_) (fun h => absurd (by first | decide | omega) h)))
      refine MC.again (i + 1) (by repeat (first | exact trivial | refine ⟨rfl, ?_⟩)) ⟨by omega, hs⟩ (by omega)
    · repeat (first | (refine MC.run1 tab 1000 rfl rfl (by first | exact True.intro | (simp only [Conds, rng, Int.toNat_natCast, List.length_append, bytesV_length] <;> omega) | (simp [Conds, rng] <;> omega) | (simp only [Conds, rng, wrap_u8, wrap_u16, wrap_u32, wrap_u64] <;> omega)) ?_) | (refine MC.la true (la_load1 hs rfl (by rfl)) rfl ?_) | (refine MC.part rfl rfl (fun h => absurd h (by first | decide | omega)) (fun _ => ?_)) | (refine MC.part rfl rfl (fun _ => ?_) (fun h => absurd (by first | decide | omega) h)) | (refine MC.cond rfl (fun h => absurd h (by first | decide | omega)) (fun _ => ?_)) | (refine MC.cond rfl (fun _ => ?_) (fun h => absurd (by first | decide | omega) h)))
      refine MC.loop (σ := Nat) (fun i => [(4, true, .slice qb ff.length cb), (5, true, .slice qc aa.length cc), (8, true, .slice qe ff.length ce), (9, true, .slice qf aa.length cf), (76, true, int ((ff.length : Nat) : Int)), (77, true, int ((i : Nat) : Int))])
        (fun i w => i ≤ ff.length ∧ Sat G w) (fun i => ff.length - i) 0 (by repeat (first | exact trivial | refine ⟨rfl, ?_⟩)) ⟨Nat.zero_le _, hs⟩ ?_
      rintro j w hx
      clear hs
      obtain ⟨hj, hs⟩ := hx
      rcases Nat.lt_or_ge j ff.length with hlj | hgj
      · obtain ⟨bb, ob, rfl, hrb⟩ := rb.at_ (by omega)
        obtain ⟨bc, oc, rfl, hrc⟩ := rc.at_ (by omega)
        obtain ⟨be, oe, rfl, hre⟩ := re.at_ (by omega)
        obtain ⟨bf, of_, rfl, hrf⟩ := rf.at_ (by omega)
        have e1 := strsV_at' ff j hlj
        have e2 := natsV_at aa j (by omega)
        repeat (first | (refine MC.run1 tab 1000 rfl rfl (by first | exact True.intro | (simp only [Conds, rng, Int.toNat_natCast, List.length_append, bytesV_length] <;> omega) | (simp [Conds, rng] <;> omega) | (simp only [Conds, rng, wrap_u8, wrap_u16, wrap_u32, wrap_u64] <;> omega)) ?_) | (refine MC.la true (la_load1 hs rfl (by rfl)) rfl ?_) | (refine MC.part rfl rfl (fun h => absurd h (by first | decide | omega)) (fun _ => ?_)) | (refine MC.part rfl rfl (fun _ => ?_) (fun h => absurd (by first | decide | omega) h)) | (refine MC.cond rfl (fun h => absurd h (by first | decide | omega)) (fun _ => ?_)) | (refine MC.cond rfl (fun _ => ?_) (fun h => absurd (by first | decide | omega) h)))
        refine MC.draw hs [0,1,2,3,4,5,6,7,8,9,10,11,12,13,14,15,16,17,18,19] (by rfl) ?_; intro w hs
        repeat (first | (refine MC.run1 tab 1000 rfl rfl (by first | exact True.intro | (simp only [Conds, rng, Int.toNat_natCast, List.length_append, bytesV_length] <;> omega) | (simp [Conds, rng] <;> omega) | (simp only [Conds, rng, wrap_u8, wrap_u16, wrap_u32, wrap_u64] <;> omega)) ?_) | (refine MC.laD true (la_load1 hs rfl (by rfl)) rfl ?_) | (refine MC.part rfl rfl (fun h => absurd h (by first | decide | omega)) (fun _ => ?_)) | (refine MC.part rfl rfl (fun _ => ?_) (fun h => absurd (by first | decide | omega) h)) | (refine MC.cond rfl (fun h => absurd h (by first | decide | omega)) (fun _ => ?_)) | (refine MC.cond rfl (fun _ => ?_) (fun h => absurd (by first | decide | omega) h)))
        refine MC.laD true (la_load1_rd hrb hs (j := ((j : Nat) : Int).toNat * 1) rfl e1) rfl ?_
        repeat (first | (refine MC.run1 tab 1000 rfl rfl (by first | exact True.intro | (simp only [Conds, rng, Int.toNat_natCast, List.length_append, bytesV_length] <;> omega) | (simp [Conds, rng] <;> omega) | (simp only [Conds, rng, wrap_u8, wrap_u16, wrap_u32, wrap_u64] <;> omega)) ?_) | (refine MC.laD true (la_load1 hs rfl (by rfl)) rfl ?_) | (refine MC.part rfl rfl (fun h => absurd h (by first | decide | omega)) (fun _ => ?_)) | (refine MC.part rfl rfl (fun _ => ?_) (fun h => absurd (by first | decide | omega) h)) | (refine MC.cond rfl (fun h => absurd h (by first | decide | omega)) (fun _ => ?_)) | (refine MC.cond rfl (fun _ => ?_) (fun h => absurd (by first | decide | omega) h)))
        refine MC.laD true (la_load1_rd hre hs (j := ((j : Nat) : Int).toNat * 1) rfl e1) rfl ?_
        repeat (first | (refine MC.run1 tab 1000 rfl rfl (by first | exact True.intro | (simp only [Conds, rng, Int.toNat_natCast, List.length_append, bytesV_length] <;> omega) | (simp [Conds, rng] <;> omega) | (simp only [Conds, rng, wrap_u8, wrap_u16, wrap_u32, wrap_u64] <;> omega)) ?_) | (refine MC.laD true (la_load1 hs rfl (by rfl)) rfl ?_) | (refine MC.part rfl rfl (fun h => absurd h (by first | decide | omega)) (fun _ => ?_)) | (refine MC.part rfl rfl (fun _ => ?_) (fun h => absurd (by first | decide | omega) h)) | (refine MC.cond rfl (fun h => absurd h (by first | decide | omega)) (fun _ => ?_)) | (refine MC.cond rfl (fun _ => ?_) (fun h => absurd (by first | decide | omega) h)))
        refine MC.part rfl rfl (fun h => absurd rfl h) (fun _ => ?_)
        repeat (first | (refine MC.run1 tab 1000 rfl rfl (by first | exact True.intro | (simp only [Conds, rng, Int.toNat_natCast, List.length_append, bytesV_length] <;> omega) | (simp [Conds, rng] <;> omega) | (simp only [Conds, rng, wrap_u8, wrap_u16, wrap_u32, wrap_u64] <;> omega)) ?_) | (refine MC.laD true (la_load1 hs rfl (by rfl)) rfl ?_) | (refine MC.part rfl rfl (fun h => absurd h (by first | decide | omega)) (fun _ => ?_)) | (refine MC.part rfl rfl (fun _ => ?_) (fun h => absurd (by first | decide | omega) h)) | (refine MC.cond rfl (fun h => absurd h (by first | decide | omega)) (fun _ => ?_)) | (refine MC.cond rfl (fun _ => ?_) (fun h => absurd (by first | decide | omega) h)))
        refine MC.laD true (la_load1_rd hrc hs (j := ((j : Nat) : Int).toNat * 1) rfl e2) rfl ?_
        repeat (first | (refine MC.run1 tab 1000 rfl rfl (by first | exact True.intro | (simp only [Conds, rng, Int.toNat_natCast, List.length_append, bytesV_length] <;> omega) | (simp [Conds, rng] <;> omega) | (simp only [Conds, rng, wrap_u8, wrap_u16, wrap_u32, wrap_u64] <;> omega)) ?_) | (refine MC.laD true (la_load1 hs rfl (by rfl)) rfl ?_) | (refine MC.part rfl rfl (fun h => absurd h (by first | decide | omega)) (fun _ => ?_)) | (refine MC.part rfl rfl (fun _ => ?_) (fun h => absurd (by first | decide | omega) h)) | (refine MC.cond rfl (fun h => absurd h (by first | decide | omega)) (fun _ => ?_)) | (refine MC.cond rfl (fun _ => ?_) (fun h => absurd (by first | decide | omega) h)))
        refine MC.laD true (la_load1_rd hrf hs (j := ((j : Nat) : Int).toNat * 1) rfl e2) rfl ?_
        repeat (first | (refine MC.run1 tab 1000 rfl rfl (by first | exact True.intro | (simp only [Conds, rng, Int.toNat_natCast, List.length_append, bytesV_length] <;> omega) | (simp [Conds, rng] <;> omega) | (simp only [Conds, rng, wrap_u8, wrap_u16, wrap_u32, wrap_u64] <;> omega)) ?_) | (refine MC.laD true (la_load1 hs rfl (by rfl)) rfl ?_) | (refine MC.part rfl rfl (fun h => absurd h (by first | decide | omega)) (fun _ => ?_)) | (refine MC.part rfl rfl (fun _ => ?_) (fun h => absurd (by first | decide | omega) h)) | (refine MC.cond rfl (fun h => absurd h (by first | decide | omega)) (fun _ => ?_)) | (refine MC.cond rfl (fun _ => ?_) (fun h => absurd (by first | decide | omega) h)))
        repeat (first | (refine MC.run1 tab 1000 rfl rfl (by first | exact True.intro | (simp only [Conds, rng, Int.toNat_natCast, List.length_append, bytesV_length] <;> omega) | (simp [Conds, rng] <;> omega) | (simp only [Conds, rng, wrap_u8, wrap_u16, wrap_u32, wrap_u64] <;> omega)) ?_) | (refine MC.la true (la_load1 hs rfl (by rfl)) rfl ?_) | (refine MC.part rfl rfl (fun h => absurd h (by first | decide | omega)) (fun _ => ?_)) | (refine MC.part rfl rfl (fun _ => ?_) (fun h => absurd (by first | decide | omega) h)) | (refine MC.cond rfl (fun h => absurd h (by first | decide | omega)) (fun _ => ?_)) | (refine MC.cond rfl (fun _ => ?_) (fun h => absurd (by first | decide | omega) h)))
        refine MC.again (j + 1) (by repeat (first | exact trivial | refine ⟨rfl, ?_⟩)) ⟨by omega, hs⟩ (by omega)
      · have hwk := works_spec hs hMG
        repeat (first | (refine MC.run1 tab 1000 rfl rfl (by first | exact True.intro | (simp only [Conds, rng, Int.toNat_natCast, List.length_append, bytesV_length] <;> omega) | (simp [Conds, rng] <;> omega) | (simp only [Conds, rng, wrap_u8, wrap_u16, wrap_u32, wrap_u64] <;> omega)) ?_) | (refine MC.la true (la_load1 hs rfl (by rfl)) rfl ?_) | (refine MC.part rfl rfl (fun h => absurd h (by first | decide | omega)) (fun _ => ?_)) | (refine MC.part rfl rfl (fun _ => ?_) (fun h => absurd (by first | decide | omega) h)) | (refine MC.cond rfl (fun h => absurd h (by first | decide | omega)) (fun _ => ?_)) | (refine MC.cond rfl (fun _ => ?_) (fun h => absurd (by first | decide | omega) h)))
        refine MC.does true (does_call rfl (hwk)) rfl ?_
        rintro _ w ⟨rfl, hs⟩
        repeat (first | (refine MC.run1 tab 1000 rfl rfl (by first | exact True.intro | (simp only [Conds, rng, Int.toNat_natCast, List.length_append, bytesV_length] <;> omega) | (simp [Conds, rng] <;> omega) | (simp only [Conds, rng, wrap_u8, wrap_u16, wrap_u32, wrap_u64] <;> omega)) ?_) | (refine MC.la true (la_load1 hs rfl (by rfl)) rfl ?_) | (refine MC.part rfl rfl (fun h => absurd h (by first | decide | omega)) (fun _ => ?_)) | (refine MC.part rfl rfl (fun _ => ?_) (fun h => absurd (by first | decide | omega) h)) | (refine MC.cond rfl (fun h => absurd h (by first | decide | omega)) (fun _ => ?_)) | (refine MC.cond rfl (fun _ => ?_) (fun h => absurd (by first | decide | omega) h)))
        refine MC.ret rfl ?_
        exact ⟨rfl, hGF _ hs⟩
end Go.Proofs.Ytcahpllliflloaa
