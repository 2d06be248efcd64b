/- The laws' helpers for roots: a device and its root, as they go on. -/
import Derived.Test.YtoljbocejclaeaaRh
set_option linter.unusedVariables false
set_option linter.unusedSimpArgs false
namespace Go.Proofs.Ytoljbocejclaeaa
open Go Go.Sl
attribute [local irreducible] LooksAt

/-- What may be saved. -/
structure Sv.ok (S : Sv) : Prop where
  few : S.fields.length ≤ 40
  fit : ∀ n ∈ S.fields, 0 ≤ n ∧ n ≤ 2147483647
  lo : S.stands = true → 1 ≤ S.epoch
  hi : S.epoch ≤ 2147483647
  no : S.stands = false → S = Sv.no
def encS (which : Int) (S : Sv) : List UInt8 := if S.stands = true then sectorB which S.epoch S.fields else many 256 0
theorem encS_length {which : Int} {S : Sv} (h : S.ok) : (encS which S).length = 256 := by
  unfold encS; split
  · exact sectorB_length h.few
  · simp
theorem read_enc {which : Int} {S : Sv} (h : S.ok) : readS which (encS which S) = S := by
  unfold encS; split
  · rename_i e
    rw [read_sector h.few h.fit (h.lo e) h.hi]
    obtain ⟨s, ep, f⟩ := S
    cases e; rfl
  · rename_i e
    rw [read_zero, ← h.no (by simpa using e)]
theorem Sv.no_ok : Sv.no.ok := ⟨by simp [Sv.no], by simp [Sv.no], by simp [Sv.no], by simp [Sv.no], fun _ => rfl⟩
/-- A device of 4 sectors holds a root's two sectors in its second and third one. -/
structure Coh (D : Dev) (A B : Sv) : Prop where
  ok : D.ok
  len : D.S.length = 4
  noO : D.O = []
  fuse : D.fuse = 0
  a : D.S.getD 1 [] = encS 0 A
  b : D.S.getD 2 [] = encS 1 B
  okA : A.ok
  okB : B.ok
theorem get_noO {D : Dev} (h : D.O = []) (k : Nat) : D.get k = D.S.getD k [] := by simp [Dev.get, h, laid]
theorem Coh.readA {D : Dev} {A B : Sv} (h : Coh D A B) : readS 0 (D.get (1 : Int).toNat) = A := by
  rw [show (1 : Int).toNat = 1 from rfl, get_noO h.noO, h.a, read_enc h.okA]
theorem Coh.readB {D : Dev} {A B : Sv} (h : Coh D A B) : readS 1 (D.get ((1 : Int) + 1).toNat) = B := by
  rw [show ((1 : Int) + 1).toNat = 2 from rfl, get_noO h.noO, h.b, read_enc h.okB]
theorem coh_new : Coh (Dev.new 4) Sv.no Sv.no :=
  ⟨Dev.new_ok (by decide) (by decide), by simp [Dev.new], rfl, rfl, rfl, rfl, Sv.no_ok, Sv.no_ok⟩
theorem Coh.red {D : Dev} {A B : Sv} (h : Coh D A B) : Coh D.red A B := ⟨Dev.red_ok h.ok, h.len, h.noO, h.fuse, h.a, h.b, h.okA, h.okB⟩
theorem latest_other (A B : Sv) : latestOf A B = if otherOf A B = 1 then A else if whichOf A B = 1 then B else Sv.no := by
  unfold latestOf otherOf
  rcases whichOf_cases A B with ⟨e, _⟩ | ⟨e, _⟩ | ⟨e, _⟩ <;> simp [e]
/-- A later save, laid over the one that is not the latest, is the latest. -/
theorem latest_put {A B : Sv} (hA : A.ok) (hB : B.ok) (N : Sv) (hN : N.stands = true) (he : (latestOf A B).epoch < N.epoch) (hp : 0 < N.epoch) :
    latestOf (if otherOf A B = 1 then A else N) (if otherOf A B = 1 then N else B) = N := by
  obtain ⟨sa, ea, fa⟩ := A
  obtain ⟨sb, eb, fb⟩ := B
  obtain ⟨sn, en, fn⟩ := N
  cases hN
  have hA1 := hA.no
  have hB1 := hB.no
  cases sa <;> cases sb
  · simp_all [latestOf, otherOf, whichOf, Sv.no]
  · simp_all [latestOf, otherOf, whichOf, Sv.no]
    intro h; omega
  · simp_all [latestOf, otherOf, whichOf, Sv.no]
  · by_cases h : ea < eb
    · simp_all [latestOf, otherOf, whichOf, Sv.no]
      omega
    · simp_all [latestOf, otherOf, whichOf, Sv.no]
theorem Coh.save {D : Dev} {A B : Sv} (h : Coh D A B) {N : Sv} (hN : N.ok) (hs : N.stands = true) :
    Coh (D.write ((1 : Int) + otherOf A B).toNat (sectorB (otherOf A B) N.epoch N.fields)).sync (if otherOf A B = 1 then A else N) (if otherOf A B = 1 then N else B) := by
  have hl := sectorB_length (which := otherOf A B) (epoch := N.epoch) hN.few
  have hk := otherOf_cases A B
  have hE : encS (otherOf A B) N = sectorB (otherOf A B) N.epoch N.fields := by rw [encS, if_pos hs]
  rw [← hE] at hl ⊢
  have hw : ((1 : Int) + otherOf A B).toNat < D.S.length := by rw [h.len]; omega
  have hS : ((D.write ((1 : Int) + otherOf A B).toNat (encS (otherOf A B) N)).sync).S = D.S.set ((1 : Int) + otherOf A B).toNat (encS (otherOf A B) N) := by
    show laid D.S (D.O ++ [_]) = _
    rw [h.noO]; rfl
  have hlen := h.len
  refine ⟨Dev.sync_ok (Dev.write_ok h.ok hw hl), by rw [hS, List.length_set]; exact h.len, rfl, ?_, ?_, ?_, ?_, ?_⟩
  · show burnt (burnt D.fuse) = 0
    rw [h.fuse]; rfl
  · rw [hS]
    rcases hk with e | e
    · rw [e]
      simp only [show ¬ ((0 : Int) = 1) by decide, if_false]
      rw [show ((1 : Int) + 0).toNat = 1 from rfl, List.getD_eq_getElem?_getD, List.getElem?_set_self (by omega)]; rfl
    · rw [e]
      simp only [if_true]
      rw [show ((1 : Int) + 1).toNat = 2 from rfl, List.getD_eq_getElem?_getD, List.getElem?_set_ne (by decide), ← List.getD_eq_getElem?_getD, h.a]
  · rw [hS]
    rcases hk with e | e
    · rw [e]
      simp only [show ¬ ((0 : Int) = 1) by decide, if_false]
      rw [show ((1 : Int) + 0).toNat = 1 from rfl, List.getD_eq_getElem?_getD, List.getElem?_set_ne (by decide), ← List.getD_eq_getElem?_getD, h.b]
    · rw [e]
      simp only [if_true]
      rw [show ((1 : Int) + 1).toNat = 2 from rfl, List.getD_eq_getElem?_getD, List.getElem?_set_self (by omega)]; rfl
  · split
    · exact h.okA
    · exact hN
  · split
    · exact hN
    · exact h.okB
theorem latest_ok {A B : Sv} (hA : A.ok) (hB : B.ok) : (latestOf A B).ok := by
  unfold latestOf; split
  · exact hB
  · split
    · exact hA
    · exact Sv.no_ok
theorem opened_spec {F : List Assn} {w : World} (hs : Sat F w) :
    Ret Try.prog 28 [] w fun v w' => ∃ p r D, v = .tuple #[ptr p, ptr r] ∧ Coh D Sv.no Sv.no ∧ Sat (rt r p 1 Sv.no Sv.no :: dev p D :: F) w' := by
  refine Ret.enter [] _ Try.func28 rfl Try.ntmps28 rfl ?_
  repeat (first | (refine MC.run1 tab 1000 rfl rfl (by first | exact True.intro | (simp only [Conds, rng, Int.toNat_natCast, List.length_append, bytesV_length] <;> omega) | (simp [Conds, rng] <;> omega) | (simp only [Conds, rng, wrap_u8, wrap_u16, wrap_u32, wrap_u64] <;> omega)) ?_) | (refine MC.la true (la_load1 hs rfl (by rfl)) rfl ?_) | (refine MC.part rfl rfl (fun h => absurd h (by first | decide | omega)) (fun _ => ?_)) | (refine MC.part rfl rfl (fun _ => ?_) (fun h => absurd (by first | decide | omega) h)) | (refine MC.cond rfl (fun h => absurd h (by first | decide | omega)) (fun _ => ?_)) | (refine MC.cond rfl (fun _ => ?_) (fun h => absurd (by first | decide | omega) h)))
  refine MC.does true (does_call rfl (new_spec hs 4 (by decide) (by decide))) rfl ?_
  rintro _ w ⟨p, rfl, hs⟩
  have hC := coh_new
  have hC2 := hC.red.red
  have ho := ropen_spec (at' := 1) hs hC.ok (by decide) (by decide) (by rw [hC.len]; decide) (by rw [hC.fuse]; decide)
  rw [hC.readA, hC.readB] at ho
  generalize (Dev.new 4).red.red = D at ho hC2
  repeat (first | (refine MC.run1 tab 1000 rfl rfl (by first | exact True.intro | (simp only [Conds, rng, Int.toNat_natCast, List.length_append, bytesV_length] <;> omega) | (simp [Conds, rng] <;> omega) | (simp only [Conds, rng, wrap_u8, wrap_u16, wrap_u32, wrap_u64] <;> omega)) ?_) | (refine MC.la true (la_load1 hs rfl (by rfl)) rfl ?_) | (refine MC.part rfl rfl (fun h => absurd h (by first | decide | omega)) (fun _ => ?_)) | (refine MC.part rfl rfl (fun _ => ?_) (fun h => absurd (by first | decide | omega) h)) | (refine MC.cond rfl (fun h => absurd h (by first | decide | omega)) (fun _ => ?_)) | (refine MC.cond rfl (fun _ => ?_) (fun h => absurd (by first | decide | omega) h)))
  refine MC.does true (does_call rfl (ho)) rfl ?_
  rintro _ w ⟨r, rfl, hs⟩
  repeat (first | (refine MC.run1 tab 1000 rfl rfl (by first | exact True.intro | (simp only [Conds, rng, Int.toNat_natCast, List.length_append, bytesV_length] <;> omega) | (simp [Conds, rng] <;> omega) | (simp only [Conds, rng, wrap_u8, wrap_u16, wrap_u32, wrap_u64] <;> omega)) ?_) | (refine MC.la true (la_load1 hs rfl (by rfl)) rfl ?_) | (refine MC.part rfl rfl (fun h => absurd h (by first | decide | omega)) (fun _ => ?_)) | (refine MC.part rfl rfl (fun _ => ?_) (fun h => absurd (by first | decide | omega) h)) | (refine MC.cond rfl (fun h => absurd h (by first | decide | omega)) (fun _ => ?_)) | (refine MC.cond rfl (fun _ => ?_) (fun h => absurd (by first | decide | omega) h)))
  refine MC.ret rfl ?_
  exact ⟨p, r, D, rfl, hC2, hs⟩
/-- Save, where nothing is cut. -/
theorem save_coh {F : List Assn} {r p : Nat} {A B : Sv} {D : Dev} {w : World} {vl : Value} {f : List Int} {epoch : Int} (hs : Sat (rt r p 1 A B :: dev p D :: F) w) (hC : Coh D A B)
    (hx : RdS F 1 vl f.length (intsV f)) (hf : f.length ≤ 40) (hfit : ∀ n ∈ f, 0 ≤ n ∧ n ≤ 2147483647) (he : (latestOf A B).epoch < epoch) (he0 : 1 ≤ epoch) (he1 : epoch ≤ 2147483647) :
    Ret Try.prog 25 [ptr r, vl, int epoch] w fun v w' => ∃ A' B' D', v = int 0 ∧ Coh D' A' B' ∧ latestOf A' B' = ⟨true, epoch, f⟩ ∧ Sat (rt r p 1 A' B' :: dev p D' :: F) w' := by
  have hfa := hC.okA.few
  have hfb := hC.okB.few
  refine (save_spec hs hC.ok (by rw [hC.noO]; decide) hx hf hfit he (by omega) he1 (by decide) (by rw [hC.len]; decide) (by omega) (by omega)).mono ?_
  intro v w' h
  rw [if_neg (by rw [hC.fuse]; decide), if_neg (by rw [hC.fuse]; decide)] at h
  obtain ⟨rfl, h⟩ := h
  have hN : (⟨true, epoch, f⟩ : Sv).ok := ⟨hf, hfit, fun _ => he0, he1, fun h => by cases h⟩
  exact ⟨_, _, _, rfl, hC.save hN rfl, latest_put hC.okA hC.okB ⟨true, epoch, f⟩ rfl he (by show 0 < epoch; omega), h⟩
theorem works17_spec {F : List Assn} {w : World} (hs : Sat F w) :
    Ret Try.prog 27 [] w fun v w' => v = bool true ∧ Sat F w' := by
  refine Ret.enter [] _ Try.func27 rfl Try.ntmps27 rfl ?_
  repeat (first | (refine MC.run1 tab 1000 rfl rfl (by first | exact True.intro | (simp only [Conds, rng, Int.toNat_natCast, List.length_append, bytesV_length] <;> omega) | (simp [Conds, rng] <;> omega) | (simp only [Conds, rng, wrap_u8, wrap_u16, wrap_u32, wrap_u64] <;> omega)) ?_) | (refine MC.la true (la_load1 hs rfl (by rfl)) rfl ?_) | (refine MC.part rfl rfl (fun h => absurd h (by first | decide | omega)) (fun _ => ?_)) | (refine MC.part rfl rfl (fun _ => ?_) (fun h => absurd (by first | decide | omega) h)) | (refine MC.cond rfl (fun h => absurd h (by first | decide | omega)) (fun _ => ?_)) | (refine MC.cond rfl (fun _ => ?_) (fun h => absurd (by first | decide | omega) h)))
  refine MC.does true (does_call rfl (opened_spec hs)) rfl ?_
  rintro _ w ⟨p, r, D, rfl, hC, hs⟩
  repeat (first | (refine MC.run1 tab 1000 rfl rfl (by first | exact True.intro | (simp only [Conds, rng, Int.toNat_natCast, List.length_append, bytesV_length] <;> omega) | (simp [Conds, rng] <;> omega) | (simp only [Conds, rng, wrap_u8, wrap_u16, wrap_u32, wrap_u64] <;> omega)) ?_) | (refine MC.la true (la_load1 hs rfl (by rfl)) rfl ?_) | (refine MC.part rfl rfl (fun h => absurd h (by first | decide | omega)) (fun _ => ?_)) | (refine MC.part rfl rfl (fun _ => ?_) (fun h => absurd (by first | decide | omega) h)) | (refine MC.cond rfl (fun h => absurd h (by first | decide | omega)) (fun _ => ?_)) | (refine MC.cond rfl (fun _ => ?_) (fun h => absurd (by first | decide | omega) h)))
  refine MC.does true (does_buildL hs rfl rfl rfl (by first | (intro u hu; simp only [List.mem_cons, List.not_mem_nil, or_false] at hu; rcases hu with rfl | rfl | rfl | rfl | rfl | rfl | rfl | rfl <;> rfl) | (intro u hu; simp only [List.mem_cons, List.not_mem_nil, or_false] at hu; rcases hu with rfl | rfl | rfl | rfl <;> rfl) | (intro u hu; simp only [List.mem_cons, List.not_mem_nil, or_false] at hu; rcases hu with rfl | rfl <;> rfl) | (intro u hu; simp only [List.mem_cons, List.not_mem_nil, or_false] at hu; subst hu; rfl)) rfl) rfl ?_; rintro _ w ⟨b1, rfl, hs⟩
  repeat (first | (refine MC.run1 tab 1000 rfl rfl (by first | exact True.intro | (simp only [Conds, rng, Int.toNat_natCast, List.length_append, bytesV_length] <;> omega) | (simp [Conds, rng] <;> omega) | (simp only [Conds, rng, wrap_u8, wrap_u16, wrap_u32, wrap_u64] <;> omega)) ?_) | (refine MC.la true (la_load1 hs rfl (by rfl)) rfl ?_) | (refine MC.part rfl rfl (fun h => absurd h (by first | decide | omega)) (fun _ => ?_)) | (refine MC.part rfl rfl (fun _ => ?_) (fun h => absurd (by first | decide | omega) h)) | (refine MC.cond rfl (fun h => absurd h (by first | decide | omega)) (fun _ => ?_)) | (refine MC.cond rfl (fun _ => ?_) (fun h => absurd (by first | decide | omega) h)))
  have hs := hs.pickF 3 [1, 2, 0] rfl rfl
  have hs5 : ∀ n ∈ [(5 : Int), 7], 0 ≤ n ∧ n ≤ 2147483647 := by intro n hn; simp at hn; omega
  refine MC.does true (does_call rfl (save_coh (f := [5, 7]) (epoch := 1) hs hC ⟨_, _, rfl, Nat.le_refl _, rfl, fun _ => ⟨b1, 0, rfl, Rd.of_at⟩⟩ (by simp) hs5 (by decide) (by decide) (by decide))) rfl ?_
  rintro _ w ⟨A, B, D, rfl, hC, hL, hs⟩
  have hfa := hC.okA.few
  have hfb := hC.okB.few
  repeat (first | (refine MC.run1 tab 1000 rfl rfl (by first | exact True.intro | (simp only [Conds, rng, Int.toNat_natCast, List.length_append, bytesV_length] <;> omega) | (simp [Conds, rng] <;> omega) | (simp only [Conds, rng, wrap_u8, wrap_u16, wrap_u32, wrap_u64] <;> omega)) ?_) | (refine MC.la true (la_load1 hs rfl (by rfl)) rfl ?_) | (refine MC.part rfl rfl (fun h => absurd h (by first | decide | omega)) (fun _ => ?_)) | (refine MC.part rfl rfl (fun _ => ?_) (fun h => absurd (by first | decide | omega) h)) | (refine MC.cond rfl (fun h => absurd h (by first | decide | omega)) (fun _ => ?_)) | (refine MC.cond rfl (fun _ => ?_) (fun h => absurd (by first | decide | omega) h)))
  refine MC.does true (does_call rfl (save_again (vl := .slice none 0 0) (epoch := 1) hs (by rw [hL]; decide) (by omega) (by omega))) rfl ?_
  rintro _ w ⟨rfl, hs⟩
  have hla := latest_spec hs (by omega) (by omega)
  rw [hL] at hla
  repeat (first | (refine MC.run1 tab 1000 rfl rfl (by first | exact True.intro | (simp only [Conds, rng, Int.toNat_natCast, List.length_append, bytesV_length] <;> omega) | (simp [Conds, rng] <;> omega) | (simp only [Conds, rng, wrap_u8, wrap_u16, wrap_u32, wrap_u64] <;> omega)) ?_) | (refine MC.la true (la_load1 hs rfl (by rfl)) rfl ?_) | (refine MC.part rfl rfl (fun h => absurd h (by first | decide | omega)) (fun _ => ?_)) | (refine MC.part rfl rfl (fun _ => ?_) (fun h => absurd (by first | decide | omega) h)) | (refine MC.cond rfl (fun h => absurd h (by first | decide | omega)) (fun _ => ?_)) | (refine MC.cond rfl (fun _ => ?_) (fun h => absurd (by first | decide | omega) h)))
  refine MC.does true (does_call rfl (hla)) rfl ?_
  rintro _ w ⟨vf, rfl, hs⟩
  obtain ⟨_, qf, cf, rfl, _⟩ := hs.sl_len
  repeat (first | (refine MC.run1 tab 1000 rfl rfl (by first | exact True.intro | (simp only [Conds, rng, Int.toNat_natCast, List.length_append, bytesV_length] <;> omega) | (simp [Conds, rng] <;> omega) | (simp only [Conds, rng, wrap_u8, wrap_u16, wrap_u32, wrap_u64] <;> omega)) ?_) | (refine MC.la true (la_load1 hs rfl (by rfl)) rfl ?_) | (refine MC.part rfl rfl (fun h => absurd h (by first | decide | omega)) (fun _ => ?_)) | (refine MC.part rfl rfl (fun _ => ?_) (fun h => absurd (by first | decide | omega) h)) | (refine MC.cond rfl (fun h => absurd h (by first | decide | omega)) (fun _ => ?_)) | (refine MC.cond rfl (fun _ => ?_) (fun h => absurd (by first | decide | omega) h)))
  refine MC.does true (does_buildL hs rfl rfl rfl (by first | (intro u hu; simp only [List.mem_cons, List.not_mem_nil, or_false] at hu; rcases hu with rfl | rfl | rfl | rfl | rfl | rfl | rfl | rfl <;> rfl) | (intro u hu; simp only [List.mem_cons, List.not_mem_nil, or_false] at hu; rcases hu with rfl | rfl | rfl | rfl <;> rfl) | (intro u hu; simp only [List.mem_cons, List.not_mem_nil, or_false] at hu; rcases hu with rfl | rfl <;> rfl) | (intro u hu; simp only [List.mem_cons, List.not_mem_nil, or_false] at hu; subst hu; rfl)) rfl) rfl ?_; rintro _ w ⟨b2, rfl, hs⟩
  have hr2 := RdS.of_sl hs.tail
  have hi := ints_spec (m := [5, 7]) hs hr2.up ⟨_, _, rfl, Nat.le_refl _, rfl, fun _ => ⟨b2, 0, rfl, Rd.of_at⟩⟩ (by simp)
  rw [show decide ([(5 : Int), 7] = [5, 7]) = true by decide] at hi
  repeat (first | (refine MC.run1 tab 1000 rfl rfl (by first | exact True.intro | (simp only [Conds, rng, Int.toNat_natCast, List.length_append, bytesV_length] <;> omega) | (simp [Conds, rng] <;> omega) | (simp only [Conds, rng, wrap_u8, wrap_u16, wrap_u32, wrap_u64] <;> omega)) ?_) | (refine MC.la true (la_load1 hs rfl (by rfl)) rfl ?_) | (refine MC.part rfl rfl (fun h => absurd h (by first | decide | omega)) (fun _ => ?_)) | (refine MC.part rfl rfl (fun _ => ?_) (fun h => absurd (by first | decide | omega) h)) | (refine MC.cond rfl (fun h => absurd h (by first | decide | omega)) (fun _ => ?_)) | (refine MC.cond rfl (fun _ => ?_) (fun h => absurd (by first | decide | omega) h)))
  refine MC.does true (does_call rfl (hi)) rfl ?_
  rintro _ w ⟨rfl, hs⟩
  repeat (first | (refine MC.run1 tab 1000 rfl rfl (by first | exact True.intro | (simp only [Conds, rng, Int.toNat_natCast, List.length_append, bytesV_length] <;> omega) | (simp [Conds, rng] <;> omega) | (simp only [Conds, rng, wrap_u8, wrap_u16, wrap_u32, wrap_u64] <;> omega)) ?_) | (refine MC.la true (la_load1 hs rfl (by rfl)) rfl ?_) | (refine MC.part rfl rfl (fun h => absurd h (by first | decide | omega)) (fun _ => ?_)) | (refine MC.part rfl rfl (fun _ => ?_) (fun h => absurd (by first | decide | omega) h)) | (refine MC.cond rfl (fun h => absurd h (by first | decide | omega)) (fun _ => ?_)) | (refine MC.cond rfl (fun _ => ?_) (fun h => absurd (by first | decide | omega) h)))
  refine MC.ret rfl ?_
  exact ⟨rfl, Suf.sat hs⟩
end Go.Proofs.Ytoljbocejclaeaa
