/- Roots: saving. -/
import Derived.Test.YtoljbocejclaeaaRd
set_option linter.unusedVariables false
set_option linter.unusedSimpArgs false
namespace Go.Proofs.Ytoljbocejclaeaa
open Go Go.Sl
attribute [local irreducible] LooksAt

theorem number_ok {F : List Assn} {w : World} {vl : Value} {xs : List Int} (hs : Sat F w) (hx : RdS F 1 vl xs.length (intsV xs)) (hl : xs.length ≤ 9223372036854775807) (h : ∀ n ∈ xs, 0 ≤ n ∧ n ≤ 2147483647) :
    Ret Try.prog 35 [vl] w fun v w' => v = bool true ∧ w' = w :=
  (number_spec hs hx hl).mono fun v w' ⟨h1, h2⟩ => ⟨by rw [h1, decide_eq_true h], h2⟩
/-- Which sector is written next. -/
def otherOf (A B : Sv) : Int := if whichOf A B = 0 then 1 else 0
theorem otherOf_cases (A B : Sv) : otherOf A B = 0 ∨ otherOf A B = 1 := by unfold otherOf; split <;> simp
theorem save_spec {F : List Assn} {r p : Nat} {at' : Int} {A B : Sv} {D : Dev} {w : World} {vl : Value} {f : List Int} {epoch : Int} (hs : Sat (rt r p at' A B :: dev p D :: F) w) (hD : D.ok) (hO : D.O.length ≤ 1000)
    (hx : RdS F 1 vl f.length (intsV f)) (hf : f.length ≤ 40) (hfit : ∀ n ∈ f, 0 ≤ n ∧ n ≤ 2147483647) (he : (latestOf A B).epoch < epoch) (he0 : 0 ≤ epoch) (he1 : epoch ≤ 2147483647) (hat0 : 0 ≤ at') (hat1 : at' + 2 ≤ D.S.length)
    (hA : A.fields.length ≤ 1000) (hB : B.fields.length ≤ 1000) :
    Ret Try.prog 25 [ptr r, vl, int epoch] w fun v w' =>
      if D.fuse = 1 then v = int 150 ∧ Sat (rt r p at' A B :: dev p D :: F) w'
      else if burnt D.fuse = 1 then v = int 150 ∧ Sat (rt r p at' A B :: dev p (D.write (at' + otherOf A B).toNat (sectorB (otherOf A B) epoch f)) :: F) w'
      else v = int 0 ∧ Sat (rt r p at' (if otherOf A B = 1 then A else ⟨true, epoch, f⟩) (if otherOf A B = 1 then ⟨true, epoch, f⟩ else B) :: dev p (D.write (at' + otherOf A B).toNat (sectorB (otherOf A B) epoch f)).sync :: F) w' := by
  obtain ⟨q, c, rfl, hc, _⟩ := hx.shape
  have hla := latest_spec hs hA hB
  obtain ⟨va0, vb0, hs0⟩ := rt_open hs
  refine Ret.enter [(true, ptr r), (true, .slice q f.length c), (true, int epoch)] _ Try.func25 rfl Try.ntmps25 rfl ?_
  repeat (first | (refine MC.run1 tab 1000 rfl rfl (by first | exact True.intro | (simp only [Conds, rng, Int.toNat_natCast, List.length_append, bytesV_length] <;> omega) | (simp [Conds, rng] <;> omega) | (simp only [Conds, rng, wrap_u8, wrap_u16, wrap_u32, wrap_u64] <;> omega)) ?_) | (refine MC.la true (la_load1 hs rfl (by rfl)) rfl ?_) | (refine MC.part rfl rfl (fun h => absurd h (by first | decide | omega)) (fun _ => ?_)) | (refine MC.part rfl rfl (fun _ => ?_) (fun h => absurd (by first | decide | omega) h)) | (refine MC.cond rfl (fun h => absurd h (by first | decide | omega)) (fun _ => ?_)) | (refine MC.cond rfl (fun _ => ?_) (fun h => absurd (by first | decide | omega) h)))
  refine MC.la true (la_load1 hs0 rfl (by rfl)) rfl ?_
  repeat (first | (refine MC.run1 tab 1000 rfl rfl (by first | exact True.intro | (simp only [Conds, rng, Int.toNat_natCast, List.length_append, bytesV_length] <;> omega) | (simp [Conds, rng] <;> omega) | (simp only [Conds, rng, wrap_u8, wrap_u16, wrap_u32, wrap_u64] <;> omega)) ?_) | (refine MC.la true (la_load1 hs rfl (by rfl)) rfl ?_) | (refine MC.part rfl rfl (fun h => absurd h (by first | decide | omega)) (fun _ => ?_)) | (refine MC.part rfl rfl (fun _ => ?_) (fun h => absurd (by first | decide | omega) h)) | (refine MC.cond rfl (fun h => absurd h (by first | decide | omega)) (fun _ => ?_)) | (refine MC.cond rfl (fun _ => ?_) (fun h => absurd (by first | decide | omega) h)))
  refine MC.does true (does_call rfl (hla)) rfl ?_
  rintro _ w ⟨vf, rfl, hs⟩
  have hs := hs.tail
  repeat (first | (refine MC.run1 tab 1000 rfl rfl (by first | exact True.intro | (simp only [Conds, rng, Int.toNat_natCast, List.length_append, bytesV_length] <;> omega) | (simp [Conds, rng] <;> omega) | (simp only [Conds, rng, wrap_u8, wrap_u16, wrap_u32, wrap_u64] <;> omega)) ?_) | (refine MC.la true (la_load1 hs rfl (by rfl)) rfl ?_) | (refine MC.part rfl rfl (fun h => absurd h (by first | decide | omega)) (fun _ => ?_)) | (refine MC.part rfl rfl (fun _ => ?_) (fun h => absurd (by first | decide | omega) h)) | (refine MC.cond rfl (fun h => absurd h (by first | decide | omega)) (fun _ => ?_)) | (refine MC.cond rfl (fun _ => ?_) (fun h => absurd (by first | decide | omega) h)))
  refine MC.does true (does_buildL hs rfl rfl rfl (by first | (intro u hu; simp only [List.mem_cons, List.not_mem_nil, or_false] at hu; rcases hu with rfl | rfl | rfl | rfl | rfl | rfl | rfl | rfl <;> rfl) | (intro u hu; simp only [List.mem_cons, List.not_mem_nil, or_false] at hu; rcases hu with rfl | rfl | rfl | rfl <;> rfl) | (intro u hu; simp only [List.mem_cons, List.not_mem_nil, or_false] at hu; rcases hu with rfl | rfl <;> rfl) | (intro u hu; simp only [List.mem_cons, List.not_mem_nil, or_false] at hu; subst hu; rfl)) rfl) rfl ?_; rintro _ w ⟨b1, rfl, hs⟩
  repeat (first | (refine MC.run1 tab 1000 rfl rfl (by first | exact True.intro | (simp only [Conds, rng, Int.toNat_natCast, List.length_append, bytesV_length] <;> omega) | (simp [Conds, rng] <;> omega) | (simp only [Conds, rng, wrap_u8, wrap_u16, wrap_u32, wrap_u64] <;> omega)) ?_) | (refine MC.la true (la_load1 hs rfl (by rfl)) rfl ?_) | (refine MC.part rfl rfl (fun h => absurd h (by first | decide | omega)) (fun _ => ?_)) | (refine MC.part rfl rfl (fun _ => ?_) (fun h => absurd (by first | decide | omega) h)) | (refine MC.cond rfl (fun h => absurd h (by first | decide | omega)) (fun _ => ?_)) | (refine MC.cond rfl (fun _ => ?_) (fun h => absurd (by first | decide | omega) h)))
  refine MC.does true (does_call rfl (number_ok (xs := [epoch]) hs ⟨_, _, rfl, Nat.le_refl _, rfl, fun _ => ⟨b1, 0, rfl, Rd.of_at⟩⟩ (by simp) (by intro n hn; simp at hn; omega))) rfl ?_
  rintro _ w' ⟨rfl, rfl⟩
  have hs := hs.tail
  repeat (first | (refine MC.run1 tab 1000 rfl rfl (by first | exact True.intro | (simp only [Conds, rng, Int.toNat_natCast, List.length_append, bytesV_length] <;> omega) | (simp [Conds, rng] <;> omega) | (simp only [Conds, rng, wrap_u8, wrap_u16, wrap_u32, wrap_u64] <;> omega)) ?_) | (refine MC.la true (la_load1 hs rfl (by rfl)) rfl ?_) | (refine MC.part rfl rfl (fun h => absurd h (by first | decide | omega)) (fun _ => ?_)) | (refine MC.part rfl rfl (fun _ => ?_) (fun h => absurd (by first | decide | omega) h)) | (refine MC.cond rfl (fun h => absurd h (by first | decide | omega)) (fun _ => ?_)) | (refine MC.cond rfl (fun _ => ?_) (fun h => absurd (by first | decide | omega) h)))
  refine MC.does true (does_call rfl (number_ok hs hx.up (by omega) hfit)) rfl ?_
  rintro _ w' ⟨rfl, rfl⟩
  repeat (first | (refine MC.run1 tab 1000 rfl rfl (by first | exact True.intro | (simp only [Conds, rng, Int.toNat_natCast, List.length_append, bytesV_length] <;> omega) | (simp [Conds, rng] <;> omega) | (simp only [Conds, rng, wrap_u8, wrap_u16, wrap_u32, wrap_u64] <;> omega)) ?_) | (refine MC.la true (la_load1 hs rfl (by rfl)) rfl ?_) | (refine MC.part rfl rfl (fun h => absurd h (by first | decide | omega)) (fun _ => ?_)) | (refine MC.part rfl rfl (fun _ => ?_) (fun h => absurd (by first | decide | omega) h)) | (refine MC.cond rfl (fun h => absurd h (by first | decide | omega)) (fun _ => ?_)) | (refine MC.cond rfl (fun _ => ?_) (fun h => absurd (by first | decide | omega) h)))
  refine MC.does true (does_call rfl (which_spec hs)) rfl ?_
  rintro _ w ⟨rfl, hs⟩
  have hkk : otherOf A B = if whichOf A B = 0 then 1 else 0 := rfl
  have hk01 := otherOf_cases A B
  generalize otherOf A B = kk at hkk hk01 ⊢
  repeat (first | (refine MC.run1 tab 1000 rfl rfl (by first | exact True.intro | (simp only [Conds, rng, Int.toNat_natCast, List.length_append, bytesV_length] <;> omega) | (simp [Conds, rng] <;> omega) | (simp only [Conds, rng, wrap_u8, wrap_u16, wrap_u32, wrap_u64] <;> omega)) ?_) | (refine MC.la true (la_load1 hs rfl (by rfl)) rfl ?_) | (refine MC.part rfl rfl (fun h => absurd h (by first | decide | omega)) (fun _ => ?_)) | (refine MC.part rfl rfl (fun _ => ?_) (fun h => absurd (by first | decide | omega) h)) | (refine MC.cond rfl (fun h => absurd h (by first | decide | omega)) (fun _ => ?_)) | (refine MC.cond rfl (fun _ => ?_) (fun h => absurd (by first | decide | omega) h)))
  refine MC.cutAt 1 [(0, true, ptr r), (1, true, .slice q f.length c), (2, true, int epoch), (10, true, int kk)] (fun w' => Sat (rt r p at' A B :: dev p D :: F) w') rfl (fun w hs => ?_) ?_
  · clear hs0
    obtain ⟨va, vb, hs⟩ := rt_open hs
    obtain ⟨_, qa, ca, rfl, _⟩ := (hs.pull 1 rfl).sl_len
    obtain ⟨_, qb, cb, rfl, _⟩ := (hs.pull 2 rfl).sl_len
    have hkb : 0 ≤ kk ∧ kk ≤ 1 := by omega
    have hsec : (sectorB kk epoch f).length = 256 := sectorB_length hf
    have hfew := hD.few
    (try dsimp only [List.drop_succ_cons, List.drop_zero, List.take_succ_cons, List.take_zero, List.cons_append, List.nil_append])
    repeat (first | (refine MC.run1 tab 1000 rfl rfl (by first | exact True.intro | (simp only [Conds, rng, Int.toNat_natCast, List.length_append, bytesV_length] <;> omega) | (simp [Conds, rng] <;> omega) | (simp only [Conds, rng, wrap_u8, wrap_u16, wrap_u32, wrap_u64] <;> omega)) ?_) | (refine MC.la true (la_load1 hs rfl (by rfl)) rfl ?_) | (refine MC.part rfl rfl (fun h => absurd h (by first | decide | omega)) (fun _ => ?_)) | (refine MC.part rfl rfl (fun _ => ?_) (fun h => absurd (by first | decide | omega) h)) | (refine MC.cond rfl (fun h => absurd h (by first | decide | omega)) (fun _ => ?_)) | (refine MC.cond rfl (fun _ => ?_) (fun h => absurd (by first | decide | omega) h)))
    refine MC.draw hs [0,1,2,3,4,5,6,7,8,9,10,11,12,13,14,15] (by rfl) ?_; intro w hs
    repeat (first | (refine MC.run1 tab 1000 rfl rfl (by first | exact True.intro | (simp only [Conds, rng, Int.toNat_natCast, List.length_append, bytesV_length] <;> omega) | (simp [Conds, rng] <;> omega) | (simp only [Conds, rng, wrap_u8, wrap_u16, wrap_u32, wrap_u64] <;> omega)) ?_) | (refine MC.laD true (la_load1 hs rfl (by rfl)) rfl ?_) | (refine MC.part rfl rfl (fun h => absurd h (by first | decide | omega)) (fun _ => ?_)) | (refine MC.part rfl rfl (fun _ => ?_) (fun h => absurd (by first | decide | omega) h)) | (refine MC.cond rfl (fun h => absurd h (by first | decide | omega)) (fun _ => ?_)) | (refine MC.cond rfl (fun _ => ?_) (fun h => absurd (by first | decide | omega) h)))
    refine MC.doesK true (does_call rfl (sector_spec kk epoch hs hx.up hf)) rfl rfl rfl ?_
    intro vs w hs
    refine ⟨(by repeat (first | exact True.intro | refine ⟨At.sat hs, ?_⟩ | refine ⟨Suf.sat hs, ?_⟩)), ?_⟩
    have hs := hs.pickF 5 [4, 0, 1, 2, 3] rfl rfl
    have hs : Sat (dev p D :: sl vs 5 1 (sectorB kk epoch f).length (bytesV (sectorB kk epoch f)) :: blk r [ptr p, int at', bool A.stands, int A.epoch, .slice qa A.fields.length ca, bool B.stands, int B.epoch, .slice qb B.fields.length cb] 62 :: sl (.slice qa A.fields.length ca) 3 1 A.fields.length (intsV A.fields) :: sl (.slice qb B.fields.length cb) 3 1 B.fields.length (intsV B.fields) :: F) w := by rw [hsec]; exact hs
    have hw := write_spec (k := at' + kk) hs hD (RdS.of_sl hs.tail) (by omega)
    rw [hsec] at hw
    by_cases hf1 : D.fuse = 1
    · have hwr : D.wrong (at' + kk) ((256 : Nat) : Int) = 150 := by
        simp only [Dev.wrong]
        rw [if_neg (by omega), if_neg (by simp), if_pos hf1]
      simp only [hwr] at hw
      refine MC.doesK true (does_call rfl hw) rfl rfl rfl ?_
      rintro _ w ⟨rfl, hs⟩
      refine ⟨(by repeat (first | exact True.intro | refine ⟨At.sat hs, ?_⟩ | refine ⟨Suf.sat hs, ?_⟩)), ?_⟩
      repeat (first | (refine MC.run1 tab 1000 rfl rfl (by first | exact True.intro | (simp only [Conds, rng, Int.toNat_natCast, List.length_append, bytesV_length] <;> omega) | (simp [Conds, rng] <;> omega) | (simp only [Conds, rng, wrap_u8, wrap_u16, wrap_u32, wrap_u64] <;> omega)) ?_) | (refine MC.la true (la_load1 hs rfl (by rfl)) rfl ?_) | (refine MC.part rfl rfl (fun h => absurd h (by first | decide | omega)) (fun _ => ?_)) | (refine MC.part rfl rfl (fun _ => ?_) (fun h => absurd (by first | decide | omega) h)) | (refine MC.cond rfl (fun h => absurd h (by first | decide | omega)) (fun _ => ?_)) | (refine MC.cond rfl (fun _ => ?_) (fun h => absurd (by first | decide | omega) h)))
      refine MC.ret rfl ?_
      have hs := hs.pickF 5 [2, 3, 4, 0] rfl rfl
      rw [if_pos hf1]
      exact ⟨rfl, rt_shut hs⟩
    · have hwr : D.wrong (at' + kk) ((256 : Nat) : Int) = 0 := Dev.wrong_zero.2 ⟨by omega, by omega, rfl, hf1⟩
      simp only [hwr, if_true] at hw
      refine MC.doesK true (does_call rfl hw) rfl rfl rfl ?_
      rintro _ w ⟨rfl, hs⟩
      refine ⟨(by repeat (first | exact True.intro | refine ⟨At.sat hs, ?_⟩ | refine ⟨Suf.sat hs, ?_⟩)), ?_⟩
      have hs := hs.pickF 5 [0, 2, 3, 4] rfl rfl
      have hD2 : (D.write (at' + kk).toNat (sectorB kk epoch f)).ok := Dev.write_ok hD (by omega) hsec
      have hD2O : (D.write (at' + kk).toNat (sectorB kk epoch f)).O.length ≤ 100000 := by simp [Dev.write]; omega
      have hD2f : (D.write (at' + kk).toNat (sectorB kk epoch f)).fuse = burnt D.fuse := rfl
      have hD2S : (D.write (at' + kk).toNat (sectorB kk epoch f)).S.length = D.S.length := rfl
      generalize D.write (at' + kk).toNat (sectorB kk epoch f) = E at hs hD2 hD2O hD2f hD2S ⊢
      repeat (first | (refine MC.run1 tab 1000 rfl rfl (by first | exact True.intro | (simp only [Conds, rng, Int.toNat_natCast, List.length_append, bytesV_length] <;> omega) | (simp [Conds, rng] <;> omega) | (simp only [Conds, rng, wrap_u8, wrap_u16, wrap_u32, wrap_u64] <;> omega)) ?_) | (refine MC.la true (la_load1 hs rfl (by rfl)) rfl ?_) | (refine MC.part rfl rfl (fun h => absurd h (by first | decide | omega)) (fun _ => ?_)) | (refine MC.part rfl rfl (fun _ => ?_) (fun h => absurd (by first | decide | omega) h)) | (refine MC.cond rfl (fun h => absurd h (by first | decide | omega)) (fun _ => ?_)) | (refine MC.cond rfl (fun _ => ?_) (fun h => absurd (by first | decide | omega) h)))
      have hsy := sync_spec hs hD2 hD2O
      by_cases hf2 : burnt D.fuse = 1
      · have hwr2 : E.wrong 0 256 = 150 := by
          simp only [Dev.wrong]
          rw [if_neg (by omega), if_neg (by simp), if_pos (by omega)]
        simp only [hwr2] at hsy
        refine MC.does true (does_call rfl (hsy)) rfl ?_
        rintro _ w ⟨rfl, hs⟩
        repeat (first | (refine MC.run1 tab 1000 rfl rfl (by first | exact True.intro | (simp only [Conds, rng, Int.toNat_natCast, List.length_append, bytesV_length] <;> omega) | (simp [Conds, rng] <;> omega) | (simp only [Conds, rng, wrap_u8, wrap_u16, wrap_u32, wrap_u64] <;> omega)) ?_) | (refine MC.la true (la_load1 hs rfl (by rfl)) rfl ?_) | (refine MC.part rfl rfl (fun h => absurd h (by first | decide | omega)) (fun _ => ?_)) | (refine MC.part rfl rfl (fun _ => ?_) (fun h => absurd (by first | decide | omega) h)) | (refine MC.cond rfl (fun h => absurd h (by first | decide | omega)) (fun _ => ?_)) | (refine MC.cond rfl (fun _ => ?_) (fun h => absurd (by first | decide | omega) h)))
        refine MC.ret rfl ?_
        have hs := hs.pickF 4 [1, 2, 3, 0] rfl rfl
        rw [if_neg hf1, if_pos hf2]
        exact ⟨rfl, rt_shut hs⟩
      · have hwr2 : E.wrong 0 256 = 0 := Dev.wrong_zero.2 ⟨by omega, by omega, rfl, by omega⟩
        simp only [hwr2, if_true] at hsy
        refine MC.does true (does_call rfl (hsy)) rfl ?_
        rintro _ w ⟨rfl, hs⟩
        repeat (first | (refine MC.run1 tab 1000 rfl rfl (by first | exact True.intro | (simp only [Conds, rng, Int.toNat_natCast, List.length_append, bytesV_length] <;> omega) | (simp [Conds, rng] <;> omega) | (simp only [Conds, rng, wrap_u8, wrap_u16, wrap_u32, wrap_u64] <;> omega)) ?_) | (refine MC.la true (la_load1 hs rfl (by rfl)) rfl ?_) | (refine MC.part rfl rfl (fun h => absurd h (by first | decide | omega)) (fun _ => ?_)) | (refine MC.part rfl rfl (fun _ => ?_) (fun h => absurd (by first | decide | omega) h)) | (refine MC.cond rfl (fun h => absurd h (by first | decide | omega)) (fun _ => ?_)) | (refine MC.cond rfl (fun _ => ?_) (fun h => absurd (by first | decide | omega) h)))
        refine MC.draw hs [0,1,2,4,7,8,3,5,6,9,10] (by rfl) ?_; intro w hs
        repeat (first | (refine MC.run1 tab 1000 rfl rfl (by first | exact True.intro | (simp only [Conds, rng, Int.toNat_natCast, List.length_append, bytesV_length] <;> omega) | (simp [Conds, rng] <;> omega) | (simp only [Conds, rng, wrap_u8, wrap_u16, wrap_u32, wrap_u64] <;> omega)) ?_) | (refine MC.laD true (la_load1 hs rfl (by rfl)) rfl ?_) | (refine MC.part rfl rfl (fun h => absurd h (by first | decide | omega)) (fun _ => ?_)) | (refine MC.part rfl rfl (fun _ => ?_) (fun h => absurd (by first | decide | omega) h)) | (refine MC.cond rfl (fun h => absurd h (by first | decide | omega)) (fun _ => ?_)) | (refine MC.cond rfl (fun _ => ?_) (fun h => absurd (by first | decide | omega) h)))
        refine MC.doesK true (does_buildSlice0 hs) rfl rfl rfl ?_
        rintro _ w ⟨b9, rfl, hs⟩
        refine ⟨(by repeat (first | exact True.intro | refine ⟨At.sat hs, ?_⟩ | refine ⟨Suf.sat hs, ?_⟩)), ?_⟩
        have hs := Sat.sl_mk (xs := []) (spare := []) (n := 0) (c := 0) (size := 1) hs (Nat.le_refl _) rfl rfl
        refine MC.doesK true (does_append hs rfl rfl (RdS.src hx (intsV_one _)) (by omega) (by omega)) rfl rfl rfl ?_
        intro v w hs
        refine ⟨(by repeat (first | exact True.intro | refine ⟨At.sat hs, ?_⟩ | refine ⟨Suf.sat hs, ?_⟩)), ?_⟩
        rw [Nat.zero_add, List.nil_append] at hs
        obtain ⟨_, qv, cv, rfl, _⟩ := hs.sl_len
        refine MC.pure (f := true) (po_build (ls := [(0, [bool true]), (1, [int epoch]), (2, [.slice qv f.length cv])]) (out := [bool true, int epoch, .slice qv f.length cv]) rfl rfl ⟨⟨_, rfl, by simp⟩, ⟨_, rfl, by simp⟩, ⟨_, rfl, by simp⟩, trivial⟩ rfl) rfl ?_
        have hcur := hs
        rcases hk01 with rfl | rfl
        · have hs := hcur
          repeat (first | (refine MC.run1 tab 1000 rfl rfl (by first | exact True.intro | (simp only [Conds, rng, Int.toNat_natCast, List.length_append, bytesV_length] <;> omega) | (simp [Conds, rng] <;> omega) | (simp only [Conds, rng, wrap_u8, wrap_u16, wrap_u32, wrap_u64] <;> omega)) ?_) | (refine MC.laD true (la_load1 hs rfl (by rfl)) rfl ?_) | (refine MC.part rfl rfl (fun h => absurd h (by first | decide | omega)) (fun _ => ?_)) | (refine MC.part rfl rfl (fun _ => ?_) (fun h => absurd (by first | decide | omega) h)) | (refine MC.cond rfl (fun h => absurd h (by first | decide | omega)) (fun _ => ?_)) | (refine MC.cond rfl (fun _ => ?_) (fun h => absurd (by first | decide | omega) h)))
          refine MC.doesD true (does_store (vs := [bool true, int epoch, .slice qv f.length cv]) hs rfl rfl rfl rfl (by first | (intro u hu; simp only [List.mem_cons, List.not_mem_nil, or_false] at hu; rcases hu with rfl | rfl | rfl | rfl | rfl | rfl | rfl | rfl <;> rfl) | (intro u hu; simp only [List.mem_cons, List.not_mem_nil, or_false] at hu; rcases hu with rfl | rfl | rfl | rfl <;> rfl) | (intro u hu; simp only [List.mem_cons, List.not_mem_nil, or_false] at hu; rcases hu with rfl | rfl <;> rfl) | (intro u hu; simp only [List.mem_cons, List.not_mem_nil, or_false] at hu; subst hu; rfl)) (by simp)) rfl rfl rfl rfl ?_
          intro _ w hs
          have hs : Sat (sl (.slice qv f.length cv) 3 1 f.length (intsV f) :: dev p E.sync :: blk r [ptr p, int at', bool true, int epoch, .slice qv f.length cv, bool B.stands, int B.epoch, .slice qb B.fields.length cb] 62 :: sl (.slice qa A.fields.length ca) 3 1 A.fields.length (intsV A.fields) :: sl (.slice qb B.fields.length cb) 3 1 B.fields.length (intsV B.fields) :: F) w := hs
          have hs := hs.pickF 5 [2, 0, 4, 1] rfl rfl
          repeat (first | (refine MC.run1 tab 1000 rfl rfl (by first | exact True.intro | (simp only [Conds, rng, Int.toNat_natCast, List.length_append, bytesV_length] <;> omega) | (simp [Conds, rng] <;> omega) | (simp only [Conds, rng, wrap_u8, wrap_u16, wrap_u32, wrap_u64] <;> omega)) ?_) | (refine MC.la true (la_load1 hs rfl (by rfl)) rfl ?_) | (refine MC.part rfl rfl (fun h => absurd h (by first | decide | omega)) (fun _ => ?_)) | (refine MC.part rfl rfl (fun _ => ?_) (fun h => absurd (by first | decide | omega) h)) | (refine MC.cond rfl (fun h => absurd h (by first | decide | omega)) (fun _ => ?_)) | (refine MC.cond rfl (fun _ => ?_) (fun h => absurd (by first | decide | omega) h)))
          refine MC.ret rfl ?_
          rw [if_neg hf1, if_neg hf2]
          exact ⟨rfl, rt_shut (A := ⟨true, epoch, f⟩) (B := B) hs⟩
        · have hs := hcur
          repeat (first | (refine MC.run1 tab 1000 rfl rfl (by first | exact True.intro | (simp only [Conds, rng, Int.toNat_natCast, List.length_append, bytesV_length] <;> omega) | (simp [Conds, rng] <;> omega) | (simp only [Conds, rng, wrap_u8, wrap_u16, wrap_u32, wrap_u64] <;> omega)) ?_) | (refine MC.laD true (la_load1 hs rfl (by rfl)) rfl ?_) | (refine MC.part rfl rfl (fun h => absurd h (by first | decide | omega)) (fun _ => ?_)) | (refine MC.part rfl rfl (fun _ => ?_) (fun h => absurd (by first | decide | omega) h)) | (refine MC.cond rfl (fun h => absurd h (by first | decide | omega)) (fun _ => ?_)) | (refine MC.cond rfl (fun _ => ?_) (fun h => absurd (by first | decide | omega) h)))
          refine MC.doesD true (does_store (vs := [bool true, int epoch, .slice qv f.length cv]) hs rfl rfl rfl rfl (by first | (intro u hu; simp only [List.mem_cons, List.not_mem_nil, or_false] at hu; rcases hu with rfl | rfl | rfl | rfl | rfl | rfl | rfl | rfl <;> rfl) | (intro u hu; simp only [List.mem_cons, List.not_mem_nil, or_false] at hu; rcases hu with rfl | rfl | rfl | rfl <;> rfl) | (intro u hu; simp only [List.mem_cons, List.not_mem_nil, or_false] at hu; rcases hu with rfl | rfl <;> rfl) | (intro u hu; simp only [List.mem_cons, List.not_mem_nil, or_false] at hu; subst hu; rfl)) (by simp)) rfl rfl rfl rfl ?_
          intro _ w hs
          have hs : Sat (sl (.slice qv f.length cv) 3 1 f.length (intsV f) :: dev p E.sync :: blk r [ptr p, int at', bool A.stands, int A.epoch, .slice qa A.fields.length ca, bool true, int epoch, .slice qv f.length cv] 62 :: sl (.slice qa A.fields.length ca) 3 1 A.fields.length (intsV A.fields) :: sl (.slice qb B.fields.length cb) 3 1 B.fields.length (intsV B.fields) :: F) w := hs
          have hs := hs.pickF 5 [2, 3, 0, 1] rfl rfl
          repeat (first | (refine MC.run1 tab 1000 rfl rfl (by first | exact True.intro | (simp only [Conds, rng, Int.toNat_natCast, List.length_append, bytesV_length] <;> omega) | (simp [Conds, rng] <;> omega) | (simp only [Conds, rng, wrap_u8, wrap_u16, wrap_u32, wrap_u64] <;> omega)) ?_) | (refine MC.la true (la_load1 hs rfl (by rfl)) rfl ?_) | (refine MC.part rfl rfl (fun h => absurd h (by first | decide | omega)) (fun _ => ?_)) | (refine MC.part rfl rfl (fun _ => ?_) (fun h => absurd (by first | decide | omega) h)) | (refine MC.cond rfl (fun h => absurd h (by first | decide | omega)) (fun _ => ?_)) | (refine MC.cond rfl (fun _ => ?_) (fun h => absurd (by first | decide | omega) h)))
          refine MC.ret rfl ?_
          rw [if_neg hf1, if_neg hf2]
          exact ⟨rfl, rt_shut (A := A) (B := ⟨true, epoch, f⟩) hs⟩
  · (try dsimp only [List.drop_succ_cons, List.drop_zero, List.take_succ_cons, List.take_zero, List.cons_append, List.nil_append])
    refine MC.cond rfl (fun h => ?_) (fun h => ?_)
    · repeat (first | (refine MC.run1 tab 1000 rfl rfl (by first | exact True.intro | (simp only [Conds, rng, Int.toNat_natCast, List.length_append, bytesV_length] <;> omega) | (simp [Conds, rng] <;> omega) | (simp only [Conds, rng, wrap_u8, wrap_u16, wrap_u32, wrap_u64] <;> omega)) ?_) | (refine MC.la true (la_load1 hs rfl (by rfl)) rfl ?_) | (refine MC.part rfl rfl (fun h => absurd h (by first | decide | omega)) (fun _ => ?_)) | (refine MC.part rfl rfl (fun _ => ?_) (fun h => absurd (by first | decide | omega) h)) | (refine MC.cond rfl (fun h => absurd h (by first | decide | omega)) (fun _ => ?_)) | (refine MC.cond rfl (fun _ => ?_) (fun h => absurd (by first | decide | omega) h)))
      refine MC.meet ⟨rfl, rfl, rfl, ?_, trivial⟩ hs
      exact congrArg (fun n => some (int n)) (by rw [hkk, if_pos h])
    · repeat (first | (refine MC.run1 tab 1000 rfl rfl (by first | exact True.intro | (simp only [Conds, rng, Int.toNat_natCast, List.length_append, bytesV_length] <;> omega) | (simp [Conds, rng] <;> omega) | (simp only [Conds, rng, wrap_u8, wrap_u16, wrap_u32, wrap_u64] <;> omega)) ?_) | (refine MC.la true (la_load1 hs rfl (by rfl)) rfl ?_) | (refine MC.part rfl rfl (fun h => absurd h (by first | decide | omega)) (fun _ => ?_)) | (refine MC.part rfl rfl (fun _ => ?_) (fun h => absurd (by first | decide | omega) h)) | (refine MC.cond rfl (fun h => absurd h (by first | decide | omega)) (fun _ => ?_)) | (refine MC.cond rfl (fun _ => ?_) (fun h => absurd (by first | decide | omega) h)))
      refine MC.meet ⟨rfl, rfl, rfl, ?_, trivial⟩ hs
      exact congrArg (fun n => some (int n)) (by rw [hkk, if_neg h])
theorem save_again {F : List Assn} {r p : Nat} {at' : Int} {A B : Sv} {w : World} {vl : Value} {epoch : Int} (hs : Sat (rt r p at' A B :: F) w) (he : epoch ≤ (latestOf A B).epoch)
    (hA : A.fields.length ≤ 1000) (hB : B.fields.length ≤ 1000) :
    Ret Try.prog 25 [ptr r, vl, int epoch] w fun v w' => v = int 2 ∧ Sat (rt r p at' A B :: F) w' := by
  have hla := latest_spec hs hA hB
  obtain ⟨va0, vb0, hs0⟩ := rt_open hs
  refine Ret.enter [(true, ptr r), (true, vl), (true, int epoch)] _ Try.func25 rfl Try.ntmps25 rfl ?_
  repeat (first | (refine MC.run1 tab 1000 rfl rfl (by first | exact True.intro | (simp only [Conds, rng, Int.toNat_natCast, List.length_append, bytesV_length] <;> omega) | (simp [Conds, rng] <;> omega) | (simp only [Conds, rng, wrap_u8, wrap_u16, wrap_u32, wrap_u64] <;> omega)) ?_) | (refine MC.la true (la_load1 hs rfl (by rfl)) rfl ?_) | (refine MC.part rfl rfl (fun h => absurd h (by first | decide | omega)) (fun _ => ?_)) | (refine MC.part rfl rfl (fun _ => ?_) (fun h => absurd (by first | decide | omega) h)) | (refine MC.cond rfl (fun h => absurd h (by first | decide | omega)) (fun _ => ?_)) | (refine MC.cond rfl (fun _ => ?_) (fun h => absurd (by first | decide | omega) h)))
  refine MC.la true (la_load1 hs0 rfl (by rfl)) rfl ?_
  repeat (first | (refine MC.run1 tab 1000 rfl rfl (by first | exact True.intro | (simp only [Conds, rng, Int.toNat_natCast, List.length_append, bytesV_length] <;> omega) | (simp [Conds, rng] <;> omega) | (simp only [Conds, rng, wrap_u8, wrap_u16, wrap_u32, wrap_u64] <;> omega)) ?_) | (refine MC.la true (la_load1 hs rfl (by rfl)) rfl ?_) | (refine MC.part rfl rfl (fun h => absurd h (by first | decide | omega)) (fun _ => ?_)) | (refine MC.part rfl rfl (fun _ => ?_) (fun h => absurd (by first | decide | omega) h)) | (refine MC.cond rfl (fun h => absurd h (by first | decide | omega)) (fun _ => ?_)) | (refine MC.cond rfl (fun _ => ?_) (fun h => absurd (by first | decide | omega) h)))
  refine MC.does true (does_call rfl (hla)) rfl ?_
  rintro _ w ⟨vf, rfl, hs⟩
  have hs := hs.tail
  repeat (first | (refine MC.run1 tab 1000 rfl rfl (by first | exact True.intro | (simp only [Conds, rng, Int.toNat_natCast, List.length_append, bytesV_length] <;> omega) | (simp [Conds, rng] <;> omega) | (simp only [Conds, rng, wrap_u8, wrap_u16, wrap_u32, wrap_u64] <;> omega)) ?_) | (refine MC.la true (la_load1 hs rfl (by rfl)) rfl ?_) | (refine MC.part rfl rfl (fun h => absurd h (by first | decide | omega)) (fun _ => ?_)) | (refine MC.part rfl rfl (fun _ => ?_) (fun h => absurd (by first | decide | omega) h)) | (refine MC.cond rfl (fun h => absurd h (by first | decide | omega)) (fun _ => ?_)) | (refine MC.cond rfl (fun _ => ?_) (fun h => absurd (by first | decide | omega) h)))
  refine MC.ret rfl ?_
  exact ⟨rfl, hs⟩
end Go.Proofs.Ytoljbocejclaeaa
