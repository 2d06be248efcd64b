/- The law of a cut save: its walk. -/
import Derived.Test.YtoljbocejclaeaaCrash
set_option linter.unusedVariables false
set_option linter.unusedSimpArgs false
namespace Go.Proofs.Ytoljbocejclaeaa
open Go Go.Sl
attribute [local irreducible] LooksAt

/-- What may be found behind a loss. -/
structure After (L0 N : Sv) (m : Int) (D : Dev) : Prop where
  ok : D.ok
  few : D.O.length ≤ 10
  lose : ∀ kept torn at', ((D.lose kept torn at').ok ∧ (D.lose kept torn at').S.length = 4 ∧ (D.lose kept torn at').O = [] ∧ (D.lose kept torn at').fuse = 0) ∧
    ∃ A B, readS 0 ((D.lose kept torn at').get (1 : Int).toNat) = A ∧ readS 1 ((D.lose kept torn at').get ((1 : Int) + 1).toNat) = B ∧ A.fields.length ≤ 40 ∧ B.fields.length ≤ 40 ∧
      ((latestOf A B = N ∧ 1 ≤ m) ∨ (latestOf A B = L0 ∧ m < 2))
theorem save_cut {F : List Assn} {r p : Nat} {A B : Sv} {D : Dev} {w : World} {vl : Value} {f : List Int} {epoch m : Int} (hs : Sat (rt r p 1 A B :: dev p { D with fuse := m + 1 } :: F) w) (hC : Coh D A B) (hm0 : 0 ≤ m) (hm1 : m < 4)
    (hx : RdS F 1 vl f.length (intsV f)) (hf : f.length ≤ 40) (hfit : ∀ n ∈ f, 0 ≤ n ∧ n ≤ 2147483647) (he : (latestOf A B).epoch < epoch) (he0 : 1 ≤ epoch) (he1 : epoch ≤ 255) :
    Ret Try.prog 25 [ptr r, vl, int epoch] w fun v w' => v = int (if m < 2 then 150 else 0) ∧ ∃ A' B' D', After (latestOf A B) ⟨true, epoch, f⟩ m D' ∧ Sat (rt r p 1 A' B' :: dev p D' :: F) w' := by
  have hfa := hC.okA.few
  have hfb := hC.okB.few
  have hlen := hC.len
  have hN : (⟨true, epoch, f⟩ : Sv).ok := ⟨hf, hfit, fun _ => he0, by show epoch ≤ 2147483647; omega, fun h => by cases h⟩
  have hDc : ({ D with fuse := m + 1 } : Dev).ok := { hC.ok with fuse0 := by show 0 ≤ m + 1; omega, fuse1 := by show m + 1 ≤ _; omega }
  have hk := otherOf_cases A B
  have hsec := sectorB_length (which := otherOf A B) (epoch := epoch) hf
  have hkl : ((1 : Int) + otherOf A B).toNat < D.S.length := by omega
  refine (save_spec hs hDc (by show D.O.length ≤ 1000; rw [hC.noO]; decide) hx hf hfit he (by omega) (by omega) (by decide) (by show (1 : Int) + 2 ≤ (D.S.length : Int); omega) (by omega) (by omega)).mono ?_
  intro v w' h
  have hb : burnt (m + 1) = if 1 < m + 1 then m else m + 1 := by simp only [burnt]; split <;> omega
  have e0 : ({ D with fuse := m + 1 } : Dev).fuse = m + 1 := rfl
  rw [e0] at h
  by_cases h0 : m = 0
  · rw [if_pos (by omega)] at h
    obtain ⟨rfl, h⟩ := h
    refine ⟨by rw [if_pos (by omega)], A, B, _, ⟨hDc, by show D.O.length ≤ 10; rw [hC.noO]; decide, fun kept torn at' => ?_⟩, h⟩
    have hE : ({ D with fuse := m + 1 } : Dev).lose kept torn at' = ⟨D.S, [], 0, 0⟩ := by
      show (⟨lost D.S D.O kept torn at' D.O.length, [], 0, 0⟩ : Dev) = _
      rw [hC.noO]; rfl
    have hg : ∀ k, (⟨D.S, [], 0, 0⟩ : Dev).get k = D.get k := fun k => by rw [get_noO rfl, get_noO hC.noO]
    have ok := Dev.lose_ok hDc kept torn at'
    rw [hE] at ok ⊢
    refine ⟨⟨ok, hlen, rfl, rfl⟩, A, B, ?_, ?_, hfa, hfb, .inr ⟨rfl, by omega⟩⟩
    · rw [hg]; exact hC.readA
    · rw [hg]; exact hC.readB
  rw [if_neg (by omega)] at h
  by_cases h1 : m = 1
  · rw [if_pos (by rw [hb, if_pos (by omega)]; exact h1)] at h
    obtain ⟨rfl, h⟩ := h
    have hw := Dev.write_ok hDc (k := ((1 : Int) + otherOf A B).toNat) hkl hsec
    refine ⟨by rw [if_pos (by omega)], A, B, _, ⟨hw, by show (D.O ++ [_]).length ≤ 10; rw [hC.noO]; simp, fun kept torn at' => ?_⟩, h⟩
    obtain ⟨mm, hmm, hE⟩ := lose_one (D := { D with fuse := m + 1 }) (l := sectorB (otherOf A B) epoch f) (k := ((1 : Int) + otherOf A B).toNat) hC.noO hkl kept torn at'
    have hle := epochs_le hC.okA hC.okB (n := epoch - 1) (by omega) (by omega)
    obtain ⟨E, hE2, A', B', g1, g2, g3, g4, g5, g6, g7, g8, g9⟩ := torn_pair hC hN rfl he1 (by constructor <;> (show _ < epoch; omega)) he hmm
    have hE3 : (({ D with fuse := m + 1 } : Dev).write ((1 : Int) + otherOf A B).toNat (sectorB (otherOf A B) epoch f)).lose kept torn at' = E := by rw [hE, hE2]
    rw [hE3]
    refine ⟨⟨g3, g4, g5, g6⟩, A', B', g1, g2, g7, g8, ?_⟩
    rcases g9 with g | g
    · exact .inl ⟨g, by omega⟩
    · exact .inr ⟨g, by omega⟩
  · rw [if_neg (by rw [hb, if_pos (by omega)]; exact h1)] at h
    obtain ⟨rfl, h⟩ := h
    have hC' := hC.save hN rfl
    have hL := latest_put hC.okA hC.okB ⟨true, epoch, f⟩ rfl he (by show 0 < epoch; omega)
    have hok := Dev.sync_ok (Dev.write_ok hDc (k := ((1 : Int) + otherOf A B).toNat) hkl hsec)
    refine ⟨by rw [if_neg (by omega)], _, _, _, ⟨hok, Nat.zero_le _, fun kept torn at' => ?_⟩, h⟩
    have ok := Dev.lose_ok hok kept torn at'
    have fa := hC'.okA.few
    have fb := hC'.okB.few
    have ra := hC'.readA
    have rb := hC'.readB
    refine ⟨⟨ok, hC'.len, rfl, rfl⟩, _, _, ra, rb, fa, fb, .inl ⟨hL, by omega⟩⟩
theorem crash_walk {vl vlast : Value} {lists : List LsR} {last : List Int} (cut torn at' : Int) (keep : Bool) {F : List Assn} {w : World} (hs : Sat F w) (hl : RdS F 1 vl lists.length (lists.flatMap LsR.row)) (hok : ∀ y ∈ lists, y.ok F) (hm : RdS F 1 vlast last.length (intsV last)) :
    Ret Try.prog 10 [vl, vlast, int cut, bool keep, int torn, int at'] w fun v w' => v = bool true ∧ Sat F w' := by
  obtain ⟨ql, cl, rfl, hcl, _⟩ := hl.shape
  obtain ⟨qm, cm, rfl, hcm, _⟩ := hm.shape
  refine Ret.enter [(true, .slice ql lists.length cl), (true, .slice qm last.length cm), (true, int cut), (false, bool keep), (true, int torn), (true, int at')] _ Try.func10 rfl Try.ntmps10 rfl ?_
  repeat (first | (refine MC.run1 tab 1000 rfl rfl (by first | exact True.intro | (simp only [Conds, rng, Int.toNat_natCast, List.length_append, bytesV_length] <;> omega) | (simp [Conds, rng] <;> omega) | (simp only [Conds, rng, wrap_u8, wrap_u16, wrap_u32, wrap_u64] <;> omega)) ?_) | (refine MC.la true (la_load1 hs rfl (by rfl)) rfl ?_) | (refine MC.part rfl rfl (fun h => absurd h (by first | decide | omega)) (fun _ => ?_)) | (refine MC.part rfl rfl (fun _ => ?_) (fun h => absurd (by first | decide | omega) h)) | (refine MC.cond rfl (fun h => absurd h (by first | decide | omega)) (fun _ => ?_)) | (refine MC.cond rfl (fun _ => ?_) (fun h => absurd (by first | decide | omega) h)))
  refine MC.does true (does_call rfl (works17_spec hs)) rfl ?_
  rintro _ w ⟨rfl, hs⟩
  repeat (first | (refine MC.run1 tab 1000 rfl rfl (by first | exact True.intro | (simp only [Conds, rng, Int.toNat_natCast, List.length_append, bytesV_length] <;> omega) | (simp [Conds, rng] <;> omega) | (simp only [Conds, rng, wrap_u8, wrap_u16, wrap_u32, wrap_u64] <;> omega)) ?_) | (refine MC.la true (la_load1 hs rfl (by rfl)) rfl ?_) | (refine MC.part rfl rfl (fun h => absurd h (by first | decide | omega)) (fun _ => ?_)) | (refine MC.part rfl rfl (fun _ => ?_) (fun h => absurd (by first | decide | omega) h)) | (refine MC.cond rfl (fun h => absurd h (by first | decide | omega)) (fun _ => ?_)) | (refine MC.cond rfl (fun _ => ?_) (fun h => absurd (by first | decide | omega) h)))
  refine MC.does true (does_call rfl (opened_spec hs)) rfl ?_
  rintro _ w ⟨p, r, D, rfl, hC, hs⟩
  repeat (first | (refine MC.run1 tab 1000 rfl rfl (by first | exact True.intro | (simp only [Conds, rng, Int.toNat_natCast, List.length_append, bytesV_length] <;> omega) | (simp [Conds, rng] <;> omega) | (simp only [Conds, rng, wrap_u8, wrap_u16, wrap_u32, wrap_u64] <;> omega)) ?_) | (refine MC.la true (la_load1 hs rfl (by rfl)) rfl ?_) | (refine MC.part rfl rfl (fun h => absurd h (by first | decide | omega)) (fun _ => ?_)) | (refine MC.part rfl rfl (fun _ => ?_) (fun h => absurd (by first | decide | omega) h)) | (refine MC.cond rfl (fun h => absurd h (by first | decide | omega)) (fun _ => ?_)) | (refine MC.cond rfl (fun _ => ?_) (fun h => absurd (by first | decide | omega) h)))
  refine MC.cutAtS (σ := Nat × Dev × Sv × Sv × Value × List Int) 2 (fun s => [(1, true, .slice qm last.length cm), (2, true, int cut), (3, false, bool keep), (4, true, int torn), (5, true, int at'), (13, true, ptr p), (14, true, ptr r), (15, true, s.2.2.2.2.1), (16, true, int ((s.1 : Nat) : Int))])
    (fun s w => s.1 ≤ 6 ∧ (s.1 = 0 → s.2.2.2.2.2 = []) ∧ Coh s.2.1 s.2.2.1 s.2.2.2.1 ∧ latestOf s.2.2.1 s.2.2.2.1 = nth s.1 s.2.2.2.2.2 ∧ s.2.2.2.2.2.length ≤ 40 ∧ Sat (rt r p 1 s.2.2.1 s.2.2.2.1 :: dev p s.2.1 :: sl s.2.2.2.2.1 3 1 s.2.2.2.2.2.length (intsV s.2.2.2.2.2) :: F) w) rfl ?_ ?_
  · rintro ⟨n, D, A, B, vw, was⟩ w ⟨hn, hw0, hC, hL, hwl, hs⟩
    have hn : n ≤ 6 := hn
    have hw0 : n = 0 → was = [] := hw0
    have hC : Coh D A B := hC
    have hL : latestOf A B = nth n was := hL
    have hwl : was.length ≤ 40 := hwl
    have hs : Sat (rt r p 1 A B :: dev p D :: sl vw 3 1 was.length (intsV was) :: F) w := hs
    obtain ⟨_, qw, cw, rfl, _⟩ := (hs.pull 2 rfl).sl_len
    dsimp only []
    have hwr : 0 ≤ IntKind.u64.wrap cut := by simp [IntKind.wrap, IntKind.signed, IntKind.bits]; omega
    have hm0 : 0 ≤ IntKind.u64.wrap cut % 4 := by omega
    have hm1 : IntKind.u64.wrap cut % 4 < 4 := by omega
    (try dsimp only [List.drop_succ_cons, List.drop_zero, List.take_succ_cons, List.take_zero, List.cons_append, List.nil_append])
    repeat (first | (refine MC.run1 tab 1000 rfl rfl (by first | exact True.intro | (simp only [Conds, rng, Int.toNat_natCast, List.length_append, bytesV_length] <;> omega) | (simp [Conds, rng] <;> omega) | (simp only [Conds, rng, wrap_u8, wrap_u16, wrap_u32, wrap_u64] <;> omega)) ?_) | (refine MC.la true (la_load1 hs rfl (by rfl)) rfl ?_) | (refine MC.part rfl rfl (fun h => absurd h (by first | decide | omega)) (fun _ => ?_)) | (refine MC.part rfl rfl (fun _ => ?_) (fun h => absurd (by first | decide | omega) h)) | (refine MC.cond rfl (fun h => absurd h (by first | decide | omega)) (fun _ => ?_)) | (refine MC.cond rfl (fun _ => ?_) (fun h => absurd (by first | decide | omega) h)))
    generalize IntKind.u64.wrap cut % 4 = m at hm0 hm1 ⊢
    refine MC.does true (does_call rfl (fit_spec hs hm.up)) rfl ?_
    intro vf w hs
    have hff := fitL_fit last
    have hfl := fitL_length last
    generalize fitL last = f at hs hff hfl
    obtain ⟨_, qf, cf, rfl, _⟩ := hs.sl_len
    have hs := hs.pickF 4 [2, 1, 0, 3] rfl rfl
    repeat (first | (refine MC.run1 tab 1000 rfl rfl (by first | exact True.intro | (simp only [Conds, rng, Int.toNat_natCast, List.length_append, bytesV_length] <;> omega) | (simp [Conds, rng] <;> omega) | (simp only [Conds, rng, wrap_u8, wrap_u16, wrap_u32, wrap_u64] <;> omega)) ?_) | (refine MC.la true (la_load1 hs rfl (by rfl)) rfl ?_) | (refine MC.part rfl rfl (fun h => absurd h (by first | decide | omega)) (fun _ => ?_)) | (refine MC.part rfl rfl (fun _ => ?_) (fun h => absurd (by first | decide | omega) h)) | (refine MC.cond rfl (fun h => absurd h (by first | decide | omega)) (fun _ => ?_)) | (refine MC.cond rfl (fun _ => ?_) (fun h => absurd (by first | decide | omega) h)))
    refine MC.does true (does_call rfl (cut_spec hs hC.ok m)) rfl ?_
    rintro _ w ⟨rfl, hs⟩
    rw [if_neg (show ¬ m < 0 by omega)]
    have hc : D.cut m = { D with fuse := m + 1 } := by
      simp only [Dev.cut, if_neg (show ¬ m < 0 by omega)]
      rw [show min m 1152921504606846976 = m by omega]
    rw [hc] at hs
    have hs := hs.swap
    have hLe : (latestOf A B).epoch = (n : Int) := by rw [hL, nth]; split <;> simp_all [Sv.no]
    repeat (first | (refine MC.run1 tab 1000 rfl rfl (by first | exact True.intro | (simp only [Conds, rng, Int.toNat_natCast, List.length_append, bytesV_length] <;> omega) | (simp [Conds, rng] <;> omega) | (simp only [Conds, rng, wrap_u8, wrap_u16, wrap_u32, wrap_u64] <;> omega)) ?_) | (refine MC.la true (la_load1 hs rfl (by rfl)) rfl ?_) | (refine MC.part rfl rfl (fun h => absurd h (by first | decide | omega)) (fun _ => ?_)) | (refine MC.part rfl rfl (fun _ => ?_) (fun h => absurd (by first | decide | omega) h)) | (refine MC.cond rfl (fun h => absurd h (by first | decide | omega)) (fun _ => ?_)) | (refine MC.cond rfl (fun _ => ?_) (fun h => absurd (by first | decide | omega) h)))
    have hsv := save_cut (epoch := (n : Int) + 1) hs hC hm0 hm1 (RdS.of_sl hs.tail.tail) hfl hff (by omega) (by omega) (by omega)
    refine MC.does true (does_call rfl (hsv)) rfl ?_
    rintro _ w ⟨rfl, A2, B2, D2, hAf, hs⟩
    rw [hL] at hAf
    have hs := hs.swap
    obtain ⟨e, he⟩ : ∃ e : Int, e = if m < 2 then 150 else 0 := ⟨_, rfl⟩
    rw [← he]
    have he2 : (m < 2 ∧ e = 150) ∨ (2 ≤ m ∧ e = 0) := by
      by_cases h : m < 2
      · rw [if_pos h] at he; exact .inl ⟨h, he⟩
      · rw [if_neg h] at he; exact .inr ⟨by omega, he⟩
    clear he
    repeat (first | (refine MC.run1 tab 1000 rfl rfl (by first | exact True.intro | (simp only [Conds, rng, Int.toNat_natCast, List.length_append, bytesV_length] <;> omega) | (simp [Conds, rng] <;> omega) | (simp only [Conds, rng, wrap_u8, wrap_u16, wrap_u32, wrap_u64] <;> omega)) ?_) | (refine MC.la true (la_load1 hs rfl (by rfl)) rfl ?_) | (refine MC.part rfl rfl (fun h => absurd h (by first | decide | omega)) (fun _ => ?_)) | (refine MC.part rfl rfl (fun _ => ?_) (fun h => absurd (by first | decide | omega) h)) | (refine MC.cond rfl (fun h => absurd h (by first | decide | omega)) (fun _ => ?_)) | (refine MC.cond rfl (fun _ => ?_) (fun h => absurd (by first | decide | omega) h)))
    refine MC.cutAt 1 [(1, true, .slice qf f.length cf), (3, false, bool keep), (4, true, int torn), (5, true, int at'), (13, true, ptr p), (15, true, .slice qw was.length cw), (16, true, int ((n : Nat) : Int)), (18, true, int m), (83, true, bool false)] (fun w' => w' = w) rfl (fun w' e => ?_) ?_
    · subst e
      (try dsimp only [List.drop_succ_cons, List.drop_zero, List.take_succ_cons, List.take_zero, List.cons_append, List.nil_append])
      repeat (first | (refine MC.run1 tab 1000 rfl rfl (by first | exact True.intro | (simp only [Conds, rng, Int.toNat_natCast, List.length_append, bytesV_length] <;> omega) | (simp [Conds, rng] <;> omega) | (simp only [Conds, rng, wrap_u8, wrap_u16, wrap_u32, wrap_u64] <;> omega)) ?_) | (refine MC.la true (la_load1 hs rfl (by rfl)) rfl ?_) | (refine MC.part rfl rfl (fun h => absurd h (by first | decide | omega)) (fun _ => ?_)) | (refine MC.part rfl rfl (fun _ => ?_) (fun h => absurd (by first | decide | omega) h)) | (refine MC.cond rfl (fun h => absurd h (by first | decide | omega)) (fun _ => ?_)) | (refine MC.cond rfl (fun _ => ?_) (fun h => absurd (by first | decide | omega) h)))
      refine MC.does true (does_buildL hs rfl rfl rfl (by intro u hu; simp only [List.mem_cons, List.not_mem_nil, or_false] at hu; subst hu; rfl) rfl) rfl ?_; rintro _ w ⟨bk, rfl, hs⟩
      have hs := hs.swap
      repeat (first | (refine MC.run1 tab 1000 rfl rfl (by first | exact True.intro | (simp only [Conds, rng, Int.toNat_natCast, List.length_append, bytesV_length] <;> omega) | (simp [Conds, rng] <;> omega) | (simp only [Conds, rng, wrap_u8, wrap_u16, wrap_u32, wrap_u64] <;> omega)) ?_) | (refine MC.la true (la_load1 hs rfl (by rfl)) rfl ?_) | (refine MC.part rfl rfl (fun h => absurd h (by first | decide | omega)) (fun _ => ?_)) | (refine MC.part rfl rfl (fun _ => ?_) (fun h => absurd (by first | decide | omega) h)) | (refine MC.cond rfl (fun h => absurd h (by first | decide | omega)) (fun _ => ?_)) | (refine MC.cond rfl (fun _ => ?_) (fun h => absurd (by first | decide | omega) h)))
      have hlo := lose_spec (torn := torn) (at' := at') (kept := [keep]) hs hAf.ok (by have := hAf.few; omega) ⟨_, _, rfl, Nat.le_refl _, rfl, fun _ => ⟨bk, 0, rfl, Rd.of_at⟩⟩
      refine MC.does true (does_call rfl (hlo)) rfl ?_
      rintro _ w ⟨px, rfl, hs⟩
      obtain ⟨⟨g1, g2, g3, g4⟩, A3, B3, r1, r2, f1, f2, hfin⟩ := hAf.lose [keep] torn at'
      generalize D2.lose [keep] torn at' = E at hs g1 g2 g3 g4 r1 r2
      have hop := ropen_spec (at' := 1) hs g1 (by rw [g3]; decide) (by decide) (by rw [g2]; decide) (by rw [g4]; decide)
      rw [r1, r2] at hop
      repeat (first | (refine MC.run1 tab 1000 rfl rfl (by first | exact True.intro | (simp only [Conds, rng, Int.toNat_natCast, List.length_append, bytesV_length] <;> omega) | (simp [Conds, rng] <;> omega) | (simp only [Conds, rng, wrap_u8, wrap_u16, wrap_u32, wrap_u64] <;> omega)) ?_) | (refine MC.la true (la_load1 hs rfl (by rfl)) rfl ?_) | (refine MC.part rfl rfl (fun h => absurd h (by first | decide | omega)) (fun _ => ?_)) | (refine MC.part rfl rfl (fun _ => ?_) (fun h => absurd (by first | decide | omega) h)) | (refine MC.cond rfl (fun h => absurd h (by first | decide | omega)) (fun _ => ?_)) | (refine MC.cond rfl (fun _ => ?_) (fun h => absurd (by first | decide | omega) h)))
      refine MC.does true (does_call rfl (hop)) rfl ?_
      rintro _ w ⟨rr, rfl, hs⟩
      have hla := latest_spec hs (by omega) (by omega)
      have hs7 : Sat (rt rr px 1 A3 B3 :: dev px E.red.red :: dev p D2 :: blk bk [bool keep] 4 :: rt r p 1 A2 B2 :: sl (.slice qf f.length cf) 3 1 f.length (intsV f) :: sl (.slice qw was.length cw) 3 1 was.length (intsV was) :: F) w := hs
      have hrf := RdS.of_sl hs7.tail.tail.tail.tail.tail
      have hrw := RdS.of_sl hs7.tail.tail.tail.tail.tail.tail
      generalize hLL : latestOf A3 B3 = L at hla hfin
      rcases hfin with ⟨rfl, hm2⟩ | ⟨rfl, hm2⟩
      · dsimp only [] at hla
        repeat (first | (refine MC.run1 tab 1000 rfl rfl (by first | exact True.intro | (simp only [Conds, rng, Int.toNat_natCast, List.length_append, bytesV_length] <;> omega) | (simp [Conds, rng] <;> omega) | (simp only [Conds, rng, wrap_u8, wrap_u16, wrap_u32, wrap_u64] <;> omega)) ?_) | (refine MC.la true (la_load1 hs rfl (by rfl)) rfl ?_) | (refine MC.part rfl rfl (fun h => absurd h (by first | decide | omega)) (fun _ => ?_)) | (refine MC.part rfl rfl (fun _ => ?_) (fun h => absurd (by first | decide | omega) h)) | (refine MC.cond rfl (fun h => absurd h (by first | decide | omega)) (fun _ => ?_)) | (refine MC.cond rfl (fun _ => ?_) (fun h => absurd (by first | decide | omega) h)))
        refine MC.does true (does_call rfl (hla)) rfl ?_
        rintro _ w ⟨vx, rfl, hs⟩
        obtain ⟨_, qx, cx, rfl, _⟩ := hs.sl_len
        repeat (first | (refine MC.run1 tab 1000 rfl rfl (by first | exact True.intro | (simp only [Conds, rng, Int.toNat_natCast, List.length_append, bytesV_length] <;> omega) | (simp [Conds, rng] <;> omega) | (simp only [Conds, rng, wrap_u8, wrap_u16, wrap_u32, wrap_u64] <;> omega)) ?_) | (refine MC.la true (la_load1 hs rfl (by rfl)) rfl ?_) | (refine MC.part rfl rfl (fun h => absurd h (by first | decide | omega)) (fun _ => ?_)) | (refine MC.part rfl rfl (fun _ => ?_) (fun h => absurd (by first | decide | omega) h)) | (refine MC.cond rfl (fun h => absurd h (by first | decide | omega)) (fun _ => ?_)) | (refine MC.cond rfl (fun _ => ?_) (fun h => absurd (by first | decide | omega) h)))
        refine MC.does true (does_call rfl (ints_ok hs (RdS.of_sl hs) hrf.up (by omega) rfl)) rfl ?_
        rintro _ w ⟨rfl, hs⟩
        repeat (first | (refine MC.run1 tab 1000 rfl rfl (by first | exact True.intro | (simp only [Conds, rng, Int.toNat_natCast, List.length_append, bytesV_length] <;> omega) | (simp [Conds, rng] <;> omega) | (simp only [Conds, rng, wrap_u8, wrap_u16, wrap_u32, wrap_u64] <;> omega)) ?_) | (refine MC.la true (la_load1 hs rfl (by rfl)) rfl ?_) | (refine MC.part rfl rfl (fun h => absurd h (by first | decide | omega)) (fun _ => ?_)) | (refine MC.part rfl rfl (fun _ => ?_) (fun h => absurd (by first | decide | omega) h)) | (refine MC.cond rfl (fun h => absurd h (by first | decide | omega)) (fun _ => ?_)) | (refine MC.cond rfl (fun _ => ?_) (fun h => absurd (by first | decide | omega) h)))
        refine MC.ret rfl ?_
        exact ⟨congrArg Value.bool (decide_eq_true (by omega)), Suf.sat hs⟩
      · rcases Nat.eq_zero_or_pos n with rfl | hpos
        · have hwas : was = [] := hw0 rfl
          simp only [nth, if_true, Sv.no] at hla
          repeat (first | (refine MC.run1 tab 1000 rfl rfl (by first | exact True.intro | (simp only [Conds, rng, Int.toNat_natCast, List.length_append, bytesV_length] <;> omega) | (simp [Conds, rng] <;> omega) | (simp only [Conds, rng, wrap_u8, wrap_u16, wrap_u32, wrap_u64] <;> omega)) ?_) | (refine MC.la true (la_load1 hs rfl (by rfl)) rfl ?_) | (refine MC.part rfl rfl (fun h => absurd h (by first | decide | omega)) (fun _ => ?_)) | (refine MC.part rfl rfl (fun _ => ?_) (fun h => absurd (by first | decide | omega) h)) | (refine MC.cond rfl (fun h => absurd h (by first | decide | omega)) (fun _ => ?_)) | (refine MC.cond rfl (fun _ => ?_) (fun h => absurd (by first | decide | omega) h)))
          refine MC.does true (does_call rfl (hla)) rfl ?_
          rintro _ w ⟨vx, rfl, hs⟩
          obtain ⟨_, qx, cx, rfl, _⟩ := hs.sl_len
          repeat (first | (refine MC.run1 tab 1000 rfl rfl (by first | exact True.intro | (simp only [Conds, rng, Int.toNat_natCast, List.length_append, bytesV_length] <;> omega) | (simp [Conds, rng] <;> omega) | (simp only [Conds, rng, wrap_u8, wrap_u16, wrap_u32, wrap_u64] <;> omega)) ?_) | (refine MC.la true (la_load1 hs rfl (by rfl)) rfl ?_) | (refine MC.part rfl rfl (fun h => absurd h (by first | decide | omega)) (fun _ => ?_)) | (refine MC.part rfl rfl (fun _ => ?_) (fun h => absurd (by first | decide | omega) h)) | (refine MC.cond rfl (fun h => absurd h (by first | decide | omega)) (fun _ => ?_)) | (refine MC.cond rfl (fun _ => ?_) (fun h => absurd (by first | decide | omega) h)))
          refine MC.pure (f := false) (po_bin rfl rfl br_bool_eq) rfl ?_
          repeat (first | (refine MC.run1 tab 1000 rfl rfl (by first | exact True.intro | (simp only [Conds, rng, Int.toNat_natCast, List.length_append, bytesV_length] <;> omega) | (simp [Conds, rng] <;> omega) | (simp only [Conds, rng, wrap_u8, wrap_u16, wrap_u32, wrap_u64] <;> omega)) ?_) | (refine MC.la true (la_load1 hs rfl (by rfl)) rfl ?_) | (refine MC.part rfl rfl (fun h => absurd h (by first | decide | omega)) (fun _ => ?_)) | (refine MC.part rfl rfl (fun _ => ?_) (fun h => absurd (by first | decide | omega) h)) | (refine MC.cond rfl (fun h => absurd h (by first | decide | omega)) (fun _ => ?_)) | (refine MC.cond rfl (fun _ => ?_) (fun h => absurd (by first | decide | omega) h)))
          subst hwas
          refine MC.does true (does_call rfl (ints_ok (l := []) hs (RdS.of_sl hs) hrw.up (by decide) rfl)) rfl ?_
          rintro _ w ⟨rfl, hs⟩
          repeat (first | (refine MC.run1 tab 1000 rfl rfl (by first | exact True.intro | (simp only [Conds, rng, Int.toNat_natCast, List.length_append, bytesV_length] <;> omega) | (simp [Conds, rng] <;> omega) | (simp only [Conds, rng, wrap_u8, wrap_u16, wrap_u32, wrap_u64] <;> omega)) ?_) | (refine MC.la true (la_load1 hs rfl (by rfl)) rfl ?_) | (refine MC.part rfl rfl (fun h => absurd h (by first | decide | omega)) (fun _ => ?_)) | (refine MC.part rfl rfl (fun _ => ?_) (fun h => absurd (by first | decide | omega) h)) | (refine MC.cond rfl (fun h => absurd h (by first | decide | omega)) (fun _ => ?_)) | (refine MC.cond rfl (fun _ => ?_) (fun h => absurd (by first | decide | omega) h)))
          refine MC.ret rfl ?_
          exact ⟨rfl, Suf.sat hs⟩
        · simp only [nth, if_neg (show ¬ n = 0 by omega)] at hla
          repeat (first | (refine MC.run1 tab 1000 rfl rfl (by first | exact True.intro | (simp only [Conds, rng, Int.toNat_natCast, List.length_append, bytesV_length] <;> omega) | (simp [Conds, rng] <;> omega) | (simp only [Conds, rng, wrap_u8, wrap_u16, wrap_u32, wrap_u64] <;> omega)) ?_) | (refine MC.la true (la_load1 hs rfl (by rfl)) rfl ?_) | (refine MC.part rfl rfl (fun h => absurd h (by first | decide | omega)) (fun _ => ?_)) | (refine MC.part rfl rfl (fun _ => ?_) (fun h => absurd (by first | decide | omega) h)) | (refine MC.cond rfl (fun h => absurd h (by first | decide | omega)) (fun _ => ?_)) | (refine MC.cond rfl (fun _ => ?_) (fun h => absurd (by first | decide | omega) h)))
          refine MC.does true (does_call rfl (hla)) rfl ?_
          rintro _ w ⟨vx, rfl, hs⟩
          obtain ⟨_, qx, cx, rfl, _⟩ := hs.sl_len
          repeat (first | (refine MC.run1 tab 1000 rfl rfl (by first | exact True.intro | (simp only [Conds, rng, Int.toNat_natCast, List.length_append, bytesV_length] <;> omega) | (simp [Conds, rng] <;> omega) | (simp only [Conds, rng, wrap_u8, wrap_u16, wrap_u32, wrap_u64] <;> omega)) ?_) | (refine MC.la true (la_load1 hs rfl (by rfl)) rfl ?_) | (refine MC.part rfl rfl (fun h => absurd h (by first | decide | omega)) (fun _ => ?_)) | (refine MC.part rfl rfl (fun _ => ?_) (fun h => absurd (by first | decide | omega) h)) | (refine MC.cond rfl (fun h => absurd h (by first | decide | omega)) (fun _ => ?_)) | (refine MC.cond rfl (fun _ => ?_) (fun h => absurd (by first | decide | omega) h)))
          refine MC.pure (f := false) (po_bin rfl rfl br_bool_eq) rfl ?_
          repeat (first | (refine MC.run1 tab 1000 rfl rfl (by first | exact True.intro | (simp only [Conds, rng, Int.toNat_natCast, List.length_append, bytesV_length] <;> omega) | (simp [Conds, rng] <;> omega) | (simp only [Conds, rng, wrap_u8, wrap_u16, wrap_u32, wrap_u64] <;> omega)) ?_) | (refine MC.la true (la_load1 hs rfl (by rfl)) rfl ?_) | (refine MC.part rfl rfl (fun h => absurd h (by first | decide | omega)) (fun _ => ?_)) | (refine MC.part rfl rfl (fun _ => ?_) (fun h => absurd (by first | decide | omega) h)) | (refine MC.cond rfl (fun h => absurd h (by first | decide | omega)) (fun _ => ?_)) | (refine MC.cond rfl (fun _ => ?_) (fun h => absurd (by first | decide | omega) h)))
          refine MC.part rfl rfl (fun _ => ?_) (fun h => absurd (decide_eq_true (by omega)).symm h)
          repeat (first | (refine MC.run1 tab 1000 rfl rfl (by first | exact True.intro | (simp only [Conds, rng, Int.toNat_natCast, List.length_append, bytesV_length] <;> omega) | (simp [Conds, rng] <;> omega) | (simp only [Conds, rng, wrap_u8, wrap_u16, wrap_u32, wrap_u64] <;> omega)) ?_) | (refine MC.la true (la_load1 hs rfl (by rfl)) rfl ?_) | (refine MC.part rfl rfl (fun h => absurd h (by first | decide | omega)) (fun _ => ?_)) | (refine MC.part rfl rfl (fun _ => ?_) (fun h => absurd (by first | decide | omega) h)) | (refine MC.cond rfl (fun h => absurd h (by first | decide | omega)) (fun _ => ?_)) | (refine MC.cond rfl (fun _ => ?_) (fun h => absurd (by first | decide | omega) h)))
          refine MC.does true (does_call rfl (ints_ok hs (RdS.of_sl hs) hrw.up (by omega) rfl)) rfl ?_
          rintro _ w ⟨rfl, hs⟩
          repeat (first | (refine MC.run1 tab 1000 rfl rfl (by first | exact True.intro | (simp only [Conds, rng, Int.toNat_natCast, List.length_append, bytesV_length] <;> omega) | (simp [Conds, rng] <;> omega) | (simp only [Conds, rng, wrap_u8, wrap_u16, wrap_u32, wrap_u64] <;> omega)) ?_) | (refine MC.la true (la_load1 hs rfl (by rfl)) rfl ?_) | (refine MC.part rfl rfl (fun h => absurd h (by first | decide | omega)) (fun _ => ?_)) | (refine MC.part rfl rfl (fun _ => ?_) (fun h => absurd (by first | decide | omega) h)) | (refine MC.cond rfl (fun h => absurd h (by first | decide | omega)) (fun _ => ?_)) | (refine MC.cond rfl (fun _ => ?_) (fun h => absurd (by first | decide | omega) h)))
          refine MC.ret rfl ?_
          exact ⟨rfl, Suf.sat hs⟩
    · (try dsimp only [List.drop_succ_cons, List.drop_zero, List.take_succ_cons, List.take_zero, List.cons_append, List.nil_append])
      refine MC.pure (f := false) (po_bin rfl rfl br_bool_ne) rfl ?_
      repeat (first | (refine MC.run1 tab 1000 rfl rfl (by first | exact True.intro | (simp only [Conds, rng, Int.toNat_natCast, List.length_append, bytesV_length] <;> omega) | (simp [Conds, rng] <;> omega) | (simp only [Conds, rng, wrap_u8, wrap_u16, wrap_u32, wrap_u64] <;> omega)) ?_) | (refine MC.la true (la_load1 hs rfl (by rfl)) rfl ?_) | (refine MC.part rfl rfl (fun h => absurd h (by first | decide | omega)) (fun _ => ?_)) | (refine MC.part rfl rfl (fun _ => ?_) (fun h => absurd (by first | decide | omega) h)) | (refine MC.cond rfl (fun h => absurd h (by first | decide | omega)) (fun _ => ?_)) | (refine MC.cond rfl (fun _ => ?_) (fun h => absurd (by first | decide | omega) h)))
      have hne : ¬ (decide (e = 0) ≠ decide (2 ≤ m)) := by
        rcases he2 with ⟨h1, h2⟩ | ⟨h1, h2⟩
        · rw [decide_eq_false (by omega), decide_eq_false (by omega)]; simp
        · rw [decide_eq_true h2, decide_eq_true h1]; simp
      refine MC.part rfl rfl (fun h => absurd h hne) (fun _ => ?_)
      repeat (first | (refine MC.run1 tab 1000 rfl rfl (by first | exact True.intro | (simp only [Conds, rng, Int.toNat_natCast, List.length_append, bytesV_length] <;> omega) | (simp [Conds, rng] <;> omega) | (simp only [Conds, rng, wrap_u8, wrap_u16, wrap_u32, wrap_u64] <;> omega)) ?_) | (refine MC.la true (la_load1 hs rfl (by rfl)) rfl ?_) | (refine MC.part rfl rfl (fun h => absurd h (by first | decide | omega)) (fun _ => ?_)) | (refine MC.part rfl rfl (fun _ => ?_) (fun h => absurd (by first | decide | omega) h)) | (refine MC.cond rfl (fun h => absurd h (by first | decide | omega)) (fun _ => ?_)) | (refine MC.cond rfl (fun _ => ?_) (fun h => absurd (by first | decide | omega) h)))
      refine MC.part rfl rfl (fun h0 => ?_) (fun h0 => ?_)
      · have he3 : e = 150 := by omega
        subst he3
        repeat (first | (refine MC.run1 tab 1000 rfl rfl (by first | exact True.intro | (simp only [Conds, rng, Int.toNat_natCast, List.length_append, bytesV_length] <;> omega) | (simp [Conds, rng] <;> omega) | (simp only [Conds, rng, wrap_u8, wrap_u16, wrap_u32, wrap_u64] <;> omega)) ?_) | (refine MC.la true (la_load1 hs rfl (by rfl)) rfl ?_) | (refine MC.part rfl rfl (fun h => absurd h (by first | decide | omega)) (fun _ => ?_)) | (refine MC.part rfl rfl (fun _ => ?_) (fun h => absurd (by first | decide | omega) h)) | (refine MC.cond rfl (fun h => absurd h (by first | decide | omega)) (fun _ => ?_)) | (refine MC.cond rfl (fun _ => ?_) (fun h => absurd (by first | decide | omega) h)))
        exact MC.meet (by repeat (first | exact trivial | refine ⟨rfl, ?_⟩)) rfl
      · repeat (first | (refine MC.run1 tab 1000 rfl rfl (by first | exact True.intro | (simp only [Conds, rng, Int.toNat_natCast, List.length_append, bytesV_length] <;> omega) | (simp [Conds, rng] <;> omega) | (simp only [Conds, rng, wrap_u8, wrap_u16, wrap_u32, wrap_u64] <;> omega)) ?_) | (refine MC.la true (la_load1 hs rfl (by rfl)) rfl ?_) | (refine MC.part rfl rfl (fun h => absurd h (by first | decide | omega)) (fun _ => ?_)) | (refine MC.part rfl rfl (fun _ => ?_) (fun h => absurd (by first | decide | omega) h)) | (refine MC.cond rfl (fun h => absurd h (by first | decide | omega)) (fun _ => ?_)) | (refine MC.cond rfl (fun _ => ?_) (fun h => absurd (by first | decide | omega) h)))
        exact MC.meet (by repeat (first | exact trivial | refine ⟨rfl, ?_⟩)) rfl
  · (try dsimp only [List.drop_succ_cons, List.drop_zero, List.take_succ_cons, List.take_zero, List.cons_append, List.nil_append])
    refine MC.loop (σ := Nat × Dev × Sv × Sv × Value × List Int) (fun s => [(0, true, .slice ql lists.length cl), (1, true, .slice qm last.length cm), (2, true, int cut), (3, false, bool keep), (4, true, int torn), (5, true, int at'), (13, true, ptr p), (14, true, ptr r), (15, true, s.2.2.2.2.1), (16, true, int ((s.1 : Nat) : Int)), (17, true, int ((s.1 : Nat) : Int))])
      (fun s w => s.1 ≤ lists.length ∧ s.1 ≤ 6 ∧ Coh s.2.1 s.2.2.1 s.2.2.2.1 ∧ latestOf s.2.2.1 s.2.2.2.1 = nth s.1 s.2.2.2.2.2 ∧ s.2.2.2.2.2.length ≤ 40 ∧ (s.1 = 0 → s.2.2.2.2.2 = []) ∧ Sat (rt r p 1 s.2.2.1 s.2.2.2.1 :: dev p s.2.1 :: sl s.2.2.2.2.1 3 1 s.2.2.2.2.2.length (intsV s.2.2.2.2.2) :: F) w) (fun s => 6 - s.1) (0, D, Sv.no, Sv.no, .slice none 0 0, []) (by repeat (first | exact trivial | refine ⟨rfl, ?_⟩)) ⟨by omega, by omega, hC, rfl, Nat.zero_le _, fun _ => rfl, (hs.sl_nil 3 1).pickF 3 [1, 2, 0] rfl rfl⟩ ?_
    rintro ⟨i, D, A, B, vw, was⟩ w ⟨hi, hi6, hC, hL, hwl, hw0, hs⟩
    have hi : i ≤ lists.length := hi
    have hi6 : i ≤ 6 := hi6
    have hC : Coh D A B := hC
    have hL : latestOf A B = nth i was := hL
    have hwl : was.length ≤ 40 := hwl
    have hw0 : i = 0 → was = [] := hw0
    have hs : Sat (rt r p 1 A B :: dev p D :: sl vw 3 1 was.length (intsV was) :: F) w := hs
    have hLe : (latestOf A B).epoch = (i : Int) := by rw [hL, nth]; split <;> simp_all [Sv.no]
    dsimp only []
    repeat (first | (refine MC.run1 tab 1000 rfl rfl (by first | exact True.intro | (simp only [Conds, rng, Int.toNat_natCast, List.length_append, bytesV_length] <;> omega) | (simp [Conds, rng] <;> omega) | (simp only [Conds, rng, wrap_u8, wrap_u16, wrap_u32, wrap_u64] <;> omega)) ?_) | (refine MC.la true (la_load1 hs rfl (by rfl)) rfl ?_) | (refine MC.part rfl rfl (fun h => absurd h (by first | decide | omega)) (fun _ => ?_)) | (refine MC.part rfl rfl (fun _ => ?_) (fun h => absurd (by first | decide | omega) h)) | (refine MC.cond rfl (fun h => absurd h (by first | decide | omega)) (fun _ => ?_)) | (refine MC.cond rfl (fun _ => ?_) (fun h => absurd (by first | decide | omega) h)))
    refine MC.part rfl rfl (fun h1 => ?_) (fun h1 => ?_)
    · have hlt : i < lists.length := by omega
      repeat (first | (refine MC.run1 tab 1000 rfl rfl (by first | exact True.intro | (simp only [Conds, rng, Int.toNat_natCast, List.length_append, bytesV_length] <;> omega) | (simp [Conds, rng] <;> omega) | (simp only [Conds, rng, wrap_u8, wrap_u16, wrap_u32, wrap_u64] <;> omega)) ?_) | (refine MC.la true (la_load1 hs rfl (by rfl)) rfl ?_) | (refine MC.part rfl rfl (fun h => absurd h (by first | decide | omega)) (fun _ => ?_)) | (refine MC.part rfl rfl (fun _ => ?_) (fun h => absurd (by first | decide | omega) h)) | (refine MC.cond rfl (fun h => absurd h (by first | decide | omega)) (fun _ => ?_)) | (refine MC.cond rfl (fun _ => ?_) (fun h => absurd (by first | decide | omega) h)))
      refine MC.cond rfl (fun h2 => ?_) (fun h2 => ?_)
      · obtain ⟨bl, ol, rfl, hrl⟩ := hl.at_ (by omega)
        have hyo := hok _ (List.getElem_mem hlt)
        have hyg := rows1_get LsR.row (fun y => .slice y.q y.l.length y.c) (fun _ => rfl) lists i hlt
        generalize lists[i] = y at hyo hyg
        obtain ⟨qy, cy, ly⟩ := y
        have hyr := hyo.h
        dsimp only [] at hyg hyr
        repeat (first | (refine MC.run1 tab 1000 rfl rfl (by first | exact True.intro | (simp only [Conds, rng, Int.toNat_natCast, List.length_append, bytesV_length] <;> omega) | (simp [Conds, rng] <;> omega) | (simp only [Conds, rng, wrap_u8, wrap_u16, wrap_u32, wrap_u64] <;> omega)) ?_) | (refine MC.la true (la_load1 hs rfl (by rfl)) rfl ?_) | (refine MC.part rfl rfl (fun h => absurd h (by first | decide | omega)) (fun _ => ?_)) | (refine MC.part rfl rfl (fun _ => ?_) (fun h => absurd (by first | decide | omega) h)) | (refine MC.cond rfl (fun h => absurd h (by first | decide | omega)) (fun _ => ?_)) | (refine MC.cond rfl (fun _ => ?_) (fun h => absurd (by first | decide | omega) h)))
        refine MC.la true (la_load1_rd hrl hs (j := ((i : Nat) : Int).toNat * 1) rfl hyg) rfl ?_
        repeat (first | (refine MC.run1 tab 1000 rfl rfl (by first | exact True.intro | (simp only [Conds, rng, Int.toNat_natCast, List.length_append, bytesV_length] <;> omega) | (simp [Conds, rng] <;> omega) | (simp only [Conds, rng, wrap_u8, wrap_u16, wrap_u32, wrap_u64] <;> omega)) ?_) | (refine MC.la true (la_load1 hs rfl (by rfl)) rfl ?_) | (refine MC.part rfl rfl (fun h => absurd h (by first | decide | omega)) (fun _ => ?_)) | (refine MC.part rfl rfl (fun _ => ?_) (fun h => absurd (by first | decide | omega) h)) | (refine MC.cond rfl (fun h => absurd h (by first | decide | omega)) (fun _ => ?_)) | (refine MC.cond rfl (fun _ => ?_) (fun h => absurd (by first | decide | omega) h)))
        refine MC.does true (does_call rfl (fit_spec hs hyr.up)) rfl ?_
        intro vf w hs
        have hff := fitL_fit ly
        have hfl := fitL_length ly
        generalize fitL ly = f at hs hff hfl
        obtain ⟨_, qf, cf, rfl, _⟩ := hs.sl_len
        have hs := hs.pickF 4 [1, 2, 0] rfl rfl
        repeat (first | (refine MC.run1 tab 1000 rfl rfl (by first | exact True.intro | (simp only [Conds, rng, Int.toNat_natCast, List.length_append, bytesV_length] <;> omega) | (simp [Conds, rng] <;> omega) | (simp only [Conds, rng, wrap_u8, wrap_u16, wrap_u32, wrap_u64] <;> omega)) ?_) | (refine MC.la true (la_load1 hs rfl (by rfl)) rfl ?_) | (refine MC.part rfl rfl (fun h => absurd h (by first | decide | omega)) (fun _ => ?_)) | (refine MC.part rfl rfl (fun _ => ?_) (fun h => absurd (by first | decide | omega) h)) | (refine MC.cond rfl (fun h => absurd h (by first | decide | omega)) (fun _ => ?_)) | (refine MC.cond rfl (fun _ => ?_) (fun h => absurd (by first | decide | omega) h)))
        refine MC.does true (does_call rfl (save_coh (epoch := (i : Int) + 1) hs hC (RdS.of_sl hs.tail.tail) hfl hff (by omega) (by omega) (by omega))) rfl ?_
        rintro _ w ⟨A', B', D', rfl, hC, hL, hs⟩
        repeat (first | (refine MC.run1 tab 1000 rfl rfl (by first | exact True.intro | (simp only [Conds, rng, Int.toNat_natCast, List.length_append, bytesV_length] <;> omega) | (simp [Conds, rng] <;> omega) | (simp only [Conds, rng, wrap_u8, wrap_u16, wrap_u32, wrap_u64] <;> omega)) ?_) | (refine MC.la true (la_load1 hs rfl (by rfl)) rfl ?_) | (refine MC.part rfl rfl (fun h => absurd h (by first | decide | omega)) (fun _ => ?_)) | (refine MC.part rfl rfl (fun _ => ?_) (fun h => absurd (by first | decide | omega) h)) | (refine MC.cond rfl (fun h => absurd h (by first | decide | omega)) (fun _ => ?_)) | (refine MC.cond rfl (fun _ => ?_) (fun h => absurd (by first | decide | omega) h)))
        exact MC.again (i + 1, D', A', B', .slice qf f.length cf, f) ⟨rfl, rfl, rfl, rfl, rfl, rfl, rfl, rfl, rfl, int_eq (by show (i : Int) + 1 = ((i + 1 : Nat) : Int); omega), int_eq (by show (i : Int) + 1 = ((i + 1 : Nat) : Int); omega), trivial⟩ ⟨hlt, by show i + 1 ≤ 6; omega, hC, by show latestOf A' B' = nth (i + 1) f; rw [hL, nth, if_neg (by omega)]; simp, hfl, fun h => (by cases h), hs⟩ (by show 6 - (i + 1) < 6 - i; omega)
      · repeat (first | (refine MC.run1 tab 1000 rfl rfl (by first | exact True.intro | (simp only [Conds, rng, Int.toNat_natCast, List.length_append, bytesV_length] <;> omega) | (simp [Conds, rng] <;> omega) | (simp only [Conds, rng, wrap_u8, wrap_u16, wrap_u32, wrap_u64] <;> omega)) ?_) | (refine MC.la true (la_load1 hs rfl (by rfl)) rfl ?_) | (refine MC.part rfl rfl (fun h => absurd h (by first | decide | omega)) (fun _ => ?_)) | (refine MC.part rfl rfl (fun _ => ?_) (fun h => absurd (by first | decide | omega) h)) | (refine MC.cond rfl (fun h => absurd h (by first | decide | omega)) (fun _ => ?_)) | (refine MC.cond rfl (fun _ => ?_) (fun h => absurd (by first | decide | omega) h)))
        exact MC.meetS (i, D, A, B, vw, was) (by repeat (first | exact trivial | refine ⟨rfl, ?_⟩)) ⟨hi6, hw0, hC, hL, hwl, hs⟩
    · repeat (first | (refine MC.run1 tab 1000 rfl rfl (by first | exact True.intro | (simp only [Conds, rng, Int.toNat_natCast, List.length_append, bytesV_length] <;> omega) | (simp [Conds, rng] <;> omega) | (simp only [Conds, rng, wrap_u8, wrap_u16, wrap_u32, wrap_u64] <;> omega)) ?_) | (refine MC.la true (la_load1 hs rfl (by rfl)) rfl ?_) | (refine MC.part rfl rfl (fun h => absurd h (by first | decide | omega)) (fun _ => ?_)) | (refine MC.part rfl rfl (fun _ => ?_) (fun h => absurd (by first | decide | omega) h)) | (refine MC.cond rfl (fun h => absurd h (by first | decide | omega)) (fun _ => ?_)) | (refine MC.cond rfl (fun _ => ?_) (fun h => absurd (by first | decide | omega) h)))
      exact MC.meetS (i, D, A, B, vw, was) (by repeat (first | exact trivial | refine ⟨rfl, ?_⟩)) ⟨hi6, hw0, hC, hL, hwl, hs⟩
end Go.Proofs.Ytoljbocejclaeaa
