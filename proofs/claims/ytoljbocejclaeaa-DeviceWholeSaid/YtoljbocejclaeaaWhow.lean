/- The law of the whole device: its walk. -/
import Derived.Test.YtoljbocejclaeaaSynw
set_option linter.unusedVariables false
set_option linter.unusedSimpArgs false
namespace Go.Proofs.Ytoljbocejclaeaa
open Go Go.Sl
attribute [local irreducible] LooksAt

def Dev.act0 (D : Dev) (a : ActR) : Dev := if a.kd = 0 ∧ a.bytes.length ≤ 256 then D.put a else D
def Dev.puts (D : Dev) (l : List ActR) : Dev := l.foldl Dev.act0 D
theorem Dev.from_.act0 {D E : Dev} {n : Nat} (h : D.from_ E n) (a : ActR) : D.from_ (E.act0 a) (n + 1) := by
  unfold Dev.act0
  split
  · exact h.put a
  · exact ⟨h.ok, h.len, Nat.le_succ_of_le h.few, h.fuse⟩
theorem Dev.from_.puts {D : Dev} : ∀ (l : List ActR) {E : Dev} {n : Nat}, D.from_ E n → D.from_ (E.puts l) (n + l.length)
  | [], _, _, h => h
  | a :: l, E, n, h => by
    have := Dev.from_.puts l (h.act0 a)
    rw [List.length_cons, Nat.add_comm l.length 1, ← Nat.add_assoc]
    exact this
theorem Dev.puts_take {D : Dev} {l : List ActR} {i : Nat} (hi : i < l.length) : D.puts (l.take (i + 1)) = (D.puts (l.take i)).act0 l[i] := by
  simp only [Dev.puts]
  rw [List.take_add_one, List.getElem?_eq_getElem hi, List.foldl_append]
  rfl
theorem Dev.act0_S (D : Dev) (a : ActR) : (D.act0 a).S = D.S := by
  unfold Dev.act0 Dev.put
  split
  · split
    · split <;> rfl
    · rfl
  · rfl
theorem Dev.puts_S : ∀ (l : List ActR) (D : Dev), (D.puts l).S = D.S
  | [], _ => rfl
  | a :: l, D => (Dev.puts_S l (D.act0 a)).trans (Dev.act0_S D a)
theorem lost_none {S : List (List UInt8)} {O : List (Nat × List UInt8)} : ∀ i, lost S O [] (-1) 0 i = S
  | 0 => rfl
  | i + 1 => by
    simp only [lost]
    rw [lost_none i]
    have e : lostN [] (-1) 0 i = 0 := by simp [lostN]
    rw [e]
    simp only [List.take_zero, List.nil_append, List.drop_zero]
    generalize (O.getD i (0, [])).1 = k
    rcases Nat.lt_or_ge k S.length with h | h
    · rw [List.getD_eq_getElem?_getD, List.getElem?_eq_getElem h]; simp
    · rw [List.set_eq_of_length_le h]
theorem lost_all {S : List (List UInt8)} {O : List (Nat × List UInt8)} (hS : ∀ s ∈ S, s.length = 256) (hO : ∀ x ∈ O, x.2.length = 256 ∧ x.1 < S.length) : ∀ i, i ≤ O.length → lost S O (List.replicate O.length true) (-1) 0 i = laid S (O.take i)
  | 0, _ => rfl
  | i + 1, hi => by
    have ih := lost_all hS hO i (by omega)
    simp only [lost]
    rw [ih, laid_take (by omega)]
    have e : lostN (List.replicate O.length true) (-1) 0 i = 256 := by
      simp only [lostN]
      rw [if_neg (by omega), List.getD_eq_getElem?_getD]
      simp [List.getElem?_replicate, show i < O.length by omega]
    have hx := hO _ (List.getElem_mem (show i < O.length by omega))
    have hl := laid_length (O.take i) S
    have hs := laid_sec (O.take i) S hS (fun x hx => (hO x (List.mem_of_mem_take hx)).1)
    rw [e]
    simp only [List.getD_eq_getElem?_getD, List.getElem?_eq_getElem (show i < O.length by omega), Option.getD_some]
    rw [List.getElem?_eq_getElem (show (O[i]).1 < (laid S (O.take i)).length by omega)]
    simp only [Option.getD_some]
    have h1 := hs _ (List.getElem_mem (show (O[i]).1 < (laid S (O.take i)).length by omega))
    rw [List.drop_of_length_le (by omega), List.take_of_length_le (l := (O[i]).2) (by omega), List.append_nil]
theorem lose_all_bytes {D : Dev} (hD : D.ok) : (D.lose (List.replicate D.O.length true) (-1) 0).bytes = D.bytes := by
  show (laid (lost D.S D.O _ (-1) 0 D.O.length) []).flatten = _
  rw [lost_all hD.sec hD.op _ (Nat.le_refl _), List.take_length]
  rfl
theorem lose_none_bytes {D : Dev} : (D.lose [] (-1) 0).bytes = D.S.flatten := by
  show (laid (lost D.S D.O _ (-1) 0 D.O.length) []).flatten = _
  rw [lost_none]
  rfl
theorem whole_walk {va vb : Value} {synced acts : List ActR} {F : List Assn} {w : World} (hs : Sat F w) (ha : RdS F 6 va synced.length (synced.flatMap ActR.row)) (hok : ∀ a ∈ synced, a.ok F) (hb : RdS F 6 vb acts.length (acts.flatMap ActR.row)) (hokb : ∀ a ∈ acts, a.ok F) :
    Ret Try.prog 4 [va, vb] w fun v w' => v = bool true ∧ Sat F w' := by
  obtain ⟨qa, ca, rfl, hca, hal⟩ := ha.shape
  obtain ⟨qb', cb', rfl, hcb, hbl⟩ := hb.shape
  refine Ret.enter [(true, .slice qa synced.length ca), (true, .slice qb' acts.length cb')] _ Try.func4 rfl Try.ntmps4 rfl ?_
  repeat (first | (refine MC.run1 tab 1000 rfl rfl (by first | exact True.intro | (simp only [Conds, rng, Int.toNat_natCast, List.length_append, bytesV_length] <;> omega) | (simp [Conds, rng] <;> omega)) ?_) | (refine MC.la true (la_load1 hs rfl (by rfl)) rfl ?_) | (refine MC.part rfl rfl (fun h => absurd h (by first | decide | omega)) (fun _ => ?_)) | (refine MC.part rfl rfl (fun _ => ?_) (fun h => absurd (by first | decide | omega) h)) | (refine MC.cond rfl (fun h => absurd h (by first | decide | omega)) (fun _ => ?_)) | (refine MC.cond rfl (fun _ => ?_) (fun h => absurd (by first | decide | omega) h)))
  refine MC.does true (does_call rfl (works_spec hs)) rfl ?_
  rintro _ w ⟨rfl, hs⟩
  repeat (first | (refine MC.run1 tab 1000 rfl rfl (by first | exact True.intro | (simp only [Conds, rng, Int.toNat_natCast, List.length_append, bytesV_length] <;> omega) | (simp [Conds, rng] <;> omega)) ?_) | (refine MC.la true (la_load1 hs rfl (by rfl)) rfl ?_) | (refine MC.part rfl rfl (fun h => absurd h (by first | decide | omega)) (fun _ => ?_)) | (refine MC.part rfl rfl (fun _ => ?_) (fun h => absurd (by first | decide | omega) h)) | (refine MC.cond rfl (fun h => absurd h (by first | decide | omega)) (fun _ => ?_)) | (refine MC.cond rfl (fun _ => ?_) (fun h => absurd (by first | decide | omega) h)))
  refine MC.does true (does_call rfl (new_spec hs 5 (by decide) (by decide))) rfl ?_
  rintro _ w ⟨p, rfl, hs⟩
  have hD := Dev.new_ok (n := 5) (by decide) (by decide)
  repeat (first | (refine MC.run1 tab 1000 rfl rfl (by first | exact True.intro | (simp only [Conds, rng, Int.toNat_natCast, List.length_append, bytesV_length] <;> omega) | (simp [Conds, rng] <;> omega)) ?_) | (refine MC.la true (la_load1 hs rfl (by rfl)) rfl ?_) | (refine MC.part rfl rfl (fun h => absurd h (by first | decide | omega)) (fun _ => ?_)) | (refine MC.part rfl rfl (fun _ => ?_) (fun h => absurd (by first | decide | omega) h)) | (refine MC.cond rfl (fun h => absurd h (by first | decide | omega)) (fun _ => ?_)) | (refine MC.cond rfl (fun _ => ?_) (fun h => absurd (by first | decide | omega) h)))
  refine MC.does true (does_call rfl (run_spec hs hD (by decide) ha hok)) rfl ?_
  intro _ w hs
  have hfr := Dev.from_.runs (synced.take 40) (Dev.from_.refl hD)
  generalize (Dev.new 5).runs (synced.take 40) = E at hs hfr
  have hE := hfr.ok
  have hES : E.S.length = 5 := hfr.len
  have hEO : E.O.length ≤ 40 := by
    have := hfr.few
    rw [List.length_take] at this
    have e : (Dev.new 5).O.length = 0 := rfl
    omega
  have hEf : E.fuse = 0 := hfr.fuse rfl
  have hE2 := Dev.sync_ok hE
  have hln : E.sync.O.length = 0 := rfl
  have hE2f : E.sync.fuse = 0 := burnt_zero hEf
  have hE2S : E.sync.S.length = 5 := (laid_length _ _).trans hES
  repeat (first | (refine MC.run1 tab 1000 rfl rfl (by first | exact True.intro | (simp only [Conds, rng, Int.toNat_natCast, List.length_append, bytesV_length] <;> omega) | (simp [Conds, rng] <;> omega)) ?_) | (refine MC.la true (la_load1 hs rfl (by rfl)) rfl ?_) | (refine MC.part rfl rfl (fun h => absurd h (by first | decide | omega)) (fun _ => ?_)) | (refine MC.part rfl rfl (fun _ => ?_) (fun h => absurd (by first | decide | omega) h)) | (refine MC.cond rfl (fun h => absurd h (by first | decide | omega)) (fun _ => ?_)) | (refine MC.cond rfl (fun _ => ?_) (fun h => absurd (by first | decide | omega) h)))
  refine MC.does true (does_call rfl (sync_ok hs hE (by omega) (Dev.wrong_zero.2 ⟨by omega, by omega, rfl, by omega⟩))) rfl ?_
  rintro _ w ⟨rfl, hs⟩
  have hB := Dev.bytes_length hE2
  rw [hE2S] at hB
  have hB2 : E.sync.bytes = E.sync.S.flatten := rfl
  generalize E.sync = G at hs hE2 hln hE2f hE2S hB hB2
  repeat (first | (refine MC.run1 tab 1000 rfl rfl (by first | exact True.intro | (simp only [Conds, rng, Int.toNat_natCast, List.length_append, bytesV_length] <;> omega) | (simp [Conds, rng] <;> omega)) ?_) | (refine MC.la true (la_load1 hs rfl (by rfl)) rfl ?_) | (refine MC.part rfl rfl (fun h => absurd h (by first | decide | omega)) (fun _ => ?_)) | (refine MC.part rfl rfl (fun _ => ?_) (fun h => absurd (by first | decide | omega) h)) | (refine MC.cond rfl (fun h => absurd h (by first | decide | omega)) (fun _ => ?_)) | (refine MC.cond rfl (fun _ => ?_) (fun h => absurd (by first | decide | omega) h)))
  refine MC.does true (does_call rfl (image_spec hs hE2 (by omega) (by omega))) rfl ?_
  rintro _ w ⟨rfl, r, hs⟩
  rw [hB2] at hB ⊢
  have hGr : ({ G with reads := r } : Dev).ok := { hE2 with }
  have hGS : ({ G with reads := r } : Dev).S = G.S := rfl
  have hGf : ({ G with reads := r } : Dev).fuse = 0 := hE2f
  have hGO : ({ G with reads := r } : Dev).O.length = 0 := hln
  generalize ({ G with reads := r } : Dev) = G' at hs hGr hGS hGf hGO
  generalize hbs : G.S.flatten = B at hB ⊢
  rw [← hGS] at hbs hE2S
  repeat (first | (refine MC.run1 tab 1000 rfl rfl (by first | exact True.intro | (simp only [Conds, rng, Int.toNat_natCast, List.length_append, bytesV_length] <;> omega) | (simp [Conds, rng] <;> omega)) ?_) | (refine MC.la true (la_load1 hs rfl (by rfl)) rfl ?_) | (refine MC.part rfl rfl (fun h => absurd h (by first | decide | omega)) (fun _ => ?_)) | (refine MC.part rfl rfl (fun _ => ?_) (fun h => absurd (by first | decide | omega) h)) | (refine MC.cond rfl (fun h => absurd h (by first | decide | omega)) (fun _ => ?_)) | (refine MC.cond rfl (fun _ => ?_) (fun h => absurd (by first | decide | omega) h)))
  refine MC.cutAt 2 [(5, true, ptr p), (7, true, str B)] (fun w' => Sat (dev p (G'.puts (acts.take 40)) :: F) w') rfl (fun w hs => ?_) ?_
  · have hfr := Dev.from_.puts (acts.take 40) (Dev.from_.refl hGr)
    have hEO : (G'.puts (acts.take 40)).O.length ≤ 40 := by
      have := hfr.few
      rw [List.length_take] at this
      omega
    have hE := hfr.ok
    have hEf : (G'.puts (acts.take 40)).fuse = 0 := hfr.fuse hGf
    have hES : (G'.puts (acts.take 40)).S = G'.S := Dev.puts_S _ _
    generalize G'.puts (acts.take 40) = E at hs hEO hE hEf hES
    have hEl : E.S.length = 5 := by rw [hES]; exact hE2S
    (try dsimp only [List.drop_succ_cons, List.drop_zero, List.take_succ_cons, List.take_zero, List.cons_append, List.nil_append])
    repeat (first | (refine MC.run1 tab 1000 rfl rfl (by first | exact True.intro | (simp only [Conds, rng, Int.toNat_natCast, List.length_append, bytesV_length] <;> omega) | (simp [Conds, rng] <;> omega)) ?_) | (refine MC.la true (la_load1 hs rfl (by rfl)) rfl ?_) | (refine MC.part rfl rfl (fun h => absurd h (by first | decide | omega)) (fun _ => ?_)) | (refine MC.part rfl rfl (fun _ => ?_) (fun h => absurd (by first | decide | omega) h)) | (refine MC.cond rfl (fun h => absurd h (by first | decide | omega)) (fun _ => ?_)) | (refine MC.cond rfl (fun _ => ?_) (fun h => absurd (by first | decide | omega) h)))
    refine MC.does true (does_call rfl (open_spec hs hE (by omega))) rfl ?_
    intro vo w hs
    obtain ⟨_, qo, co, rfl, _⟩ := hs.sl_len
    have hs := hs.tail
    repeat (first | (refine MC.run1 tab 1000 rfl rfl (by first | exact True.intro | (simp only [Conds, rng, Int.toNat_natCast, List.length_append, bytesV_length] <;> omega) | (simp [Conds, rng] <;> omega)) ?_) | (refine MC.la true (la_load1 hs rfl (by rfl)) rfl ?_) | (refine MC.part rfl rfl (fun h => absurd h (by first | decide | omega)) (fun _ => ?_)) | (refine MC.part rfl rfl (fun _ => ?_) (fun h => absurd (by first | decide | omega) h)) | (refine MC.cond rfl (fun h => absurd h (by first | decide | omega)) (fun _ => ?_)) | (refine MC.cond rfl (fun _ => ?_) (fun h => absurd (by first | decide | omega) h)))
    refine MC.does true (does_makeSlice hs rfl rfl (Nat.le_refl _) (by omega) (by omega)) rfl ?_
    rintro _ w ⟨b, rfl, hs⟩
    rw [rep_one'] at hs
    repeat (first | (refine MC.run1 tab 1000 rfl rfl (by first | exact True.intro | (simp only [Conds, rng, Int.toNat_natCast, List.length_append, bytesV_length] <;> omega) | (simp [Conds, rng] <;> omega)) ?_) | (refine MC.la true (la_load1 hs rfl (by rfl)) rfl ?_) | (refine MC.part rfl rfl (fun h => absurd h (by first | decide | omega)) (fun _ => ?_)) | (refine MC.part rfl rfl (fun _ => ?_) (fun h => absurd (by first | decide | omega) h)) | (refine MC.cond rfl (fun h => absurd h (by first | decide | omega)) (fun _ => ?_)) | (refine MC.cond rfl (fun _ => ?_) (fun h => absurd (by first | decide | omega) h)))
    refine MC.cutAt 2 [(5, true, ptr p), (7, true, str B), (10, true, .slice (some ⟨b, 0, none⟩) E.O.length E.O.length)] (fun w' => Sat (blk b (boolsV (List.replicate E.O.length true)) 4 :: dev p E :: F) w') rfl (fun w hs => ?_) ?_
    · have hkr : RdS (blk b (boolsV (List.replicate E.O.length true)) 4 :: F) 1 (.slice (some ⟨b, 0, none⟩) E.O.length E.O.length) E.O.length (boolsV (List.replicate E.O.length true)) := ⟨_, _, rfl, Nat.le_refl _, by simp [boolsV], fun _ => ⟨b, 0, rfl, Rd.of_at⟩⟩
      have hs := hs.swap
      (try dsimp only [List.drop_succ_cons, List.drop_zero, List.take_succ_cons, List.take_zero, List.cons_append, List.nil_append])
      repeat (first | (refine MC.run1 tab 1000 rfl rfl (by first | exact True.intro | (simp only [Conds, rng, Int.toNat_natCast, List.length_append, bytesV_length] <;> omega) | (simp [Conds, rng] <;> omega)) ?_) | (refine MC.la true (la_load1 hs rfl (by rfl)) rfl ?_) | (refine MC.part rfl rfl (fun h => absurd h (by first | decide | omega)) (fun _ => ?_)) | (refine MC.part rfl rfl (fun _ => ?_) (fun h => absurd (by first | decide | omega) h)) | (refine MC.cond rfl (fun h => absurd h (by first | decide | omega)) (fun _ => ?_)) | (refine MC.cond rfl (fun _ => ?_) (fun h => absurd (by first | decide | omega) h)))
      refine MC.does true (does_call rfl (lose_spec (torn := -1) (at' := 0) (kept := List.replicate E.O.length true) hs hE (by omega) hkr)) rfl ?_
      rintro _ w ⟨q, rfl, hs⟩
      have hs := hs.swap
      repeat (first | (refine MC.run1 tab 1000 rfl rfl (by first | exact True.intro | (simp only [Conds, rng, Int.toNat_natCast, List.length_append, bytesV_length] <;> omega) | (simp [Conds, rng] <;> omega)) ?_) | (refine MC.la true (la_load1 hs rfl (by rfl)) rfl ?_) | (refine MC.part rfl rfl (fun h => absurd h (by first | decide | omega)) (fun _ => ?_)) | (refine MC.part rfl rfl (fun _ => ?_) (fun h => absurd (by first | decide | omega) h)) | (refine MC.cond rfl (fun h => absurd h (by first | decide | omega)) (fun _ => ?_)) | (refine MC.cond rfl (fun _ => ?_) (fun h => absurd (by first | decide | omega) h)))
      refine MC.does true (does_call rfl (lose_spec (torn := -1) (at' := 0) (kept := []) hs hE (by omega) (RdS.nil _ 1))) rfl ?_
      rintro _ w ⟨q2, rfl, hs⟩
      have hb1 := lose_all_bytes hE
      have hb2 := lose_none_bytes (D := E)
      have hk1 := Dev.lose_ok hE (List.replicate E.O.length true) (-1) 0
      have hk2 := Dev.lose_ok hE [] (-1) 0
      have ho1 : (E.lose (List.replicate E.O.length true) (-1) 0).O.length ≤ 100000 := Nat.zero_le _
      have ho2 : (E.lose [] (-1) 0).O.length ≤ 100000 := Nat.zero_le _
      have hf1 : (E.lose (List.replicate E.O.length true) (-1) 0).fuse ≠ 1 := by show (0 : Int) ≠ 1; decide
      have hf2 : (E.lose [] (-1) 0).fuse ≠ 1 := by show (0 : Int) ≠ 1; decide
      generalize E.lose (List.replicate E.O.length true) (-1) 0 = L1 at hs hb1 hk1 ho1 hf1
      generalize E.lose [] (-1) 0 = L2 at hs hb2 hk2 ho2 hf2
      rw [hES, hbs] at hb2
      have hs := hs.pickF 3 [2, 1, 0] rfl rfl
      (try dsimp only [List.eraseIdx, List.cons_append, List.nil_append, List.drop_succ_cons, List.drop_zero, List.append_eq] at hs)
      have hi1 := image_spec hs hk1 ho1 hf1
      rw [hb1] at hi1
      repeat (first | (refine MC.run1 tab 1000 rfl rfl (by first | exact True.intro | (simp only [Conds, rng, Int.toNat_natCast, List.length_append, bytesV_length] <;> omega) | (simp [Conds, rng] <;> omega)) ?_) | (refine MC.la true (la_load1 hs rfl (by rfl)) rfl ?_) | (refine MC.part rfl rfl (fun h => absurd h (by first | decide | omega)) (fun _ => ?_)) | (refine MC.part rfl rfl (fun _ => ?_) (fun h => absurd (by first | decide | omega) h)) | (refine MC.cond rfl (fun h => absurd h (by first | decide | omega)) (fun _ => ?_)) | (refine MC.cond rfl (fun _ => ?_) (fun h => absurd (by first | decide | omega) h)))
      refine MC.does true (does_call rfl (hi1)) rfl ?_
      rintro _ w ⟨rfl, r1, hs⟩
      have hs := hs.swap
      repeat (first | (refine MC.run1 tab 1000 rfl rfl (by first | exact True.intro | (simp only [Conds, rng, Int.toNat_natCast, List.length_append, bytesV_length] <;> omega) | (simp [Conds, rng] <;> omega)) ?_) | (refine MC.la true (la_load1 hs rfl (by rfl)) rfl ?_) | (refine MC.part rfl rfl (fun h => absurd h (by first | decide | omega)) (fun _ => ?_)) | (refine MC.part rfl rfl (fun _ => ?_) (fun h => absurd (by first | decide | omega) h)) | (refine MC.cond rfl (fun h => absurd h (by first | decide | omega)) (fun _ => ?_)) | (refine MC.cond rfl (fun _ => ?_) (fun h => absurd (by first | decide | omega) h)))
      refine MC.does true (does_call rfl (image_spec hs hE (by omega) (by omega))) rfl ?_
      rintro _ w ⟨rfl, r2, hs⟩
      have hs := hs.pickF 3 [2, 1, 0] rfl rfl
      (try dsimp only [List.eraseIdx, List.cons_append, List.nil_append, List.drop_succ_cons, List.drop_zero, List.append_eq] at hs)
      have hi2 := image_spec hs hk2 ho2 hf2
      rw [hb2] at hi2
      repeat (first | (refine MC.run1 tab 1000 rfl rfl (by first | exact True.intro | (simp only [Conds, rng, Int.toNat_natCast, List.length_append, bytesV_length] <;> omega) | (simp [Conds, rng] <;> omega)) ?_) | (refine MC.la true (la_load1 hs rfl (by rfl)) rfl ?_) | (refine MC.part rfl rfl (fun h => absurd h (by first | decide | omega)) (fun _ => ?_)) | (refine MC.part rfl rfl (fun _ => ?_) (fun h => absurd (by first | decide | omega) h)) | (refine MC.cond rfl (fun h => absurd h (by first | decide | omega)) (fun _ => ?_)) | (refine MC.cond rfl (fun _ => ?_) (fun h => absurd (by first | decide | omega) h)))
      refine MC.part rfl rfl (fun _ => ?_) (fun h => absurd rfl h)
      repeat (first | (refine MC.run1 tab 1000 rfl rfl (by first | exact True.intro | (simp only [Conds, rng, Int.toNat_natCast, List.length_append, bytesV_length] <;> omega) | (simp [Conds, rng] <;> omega)) ?_) | (refine MC.la true (la_load1 hs rfl (by rfl)) rfl ?_) | (refine MC.part rfl rfl (fun h => absurd h (by first | decide | omega)) (fun _ => ?_)) | (refine MC.part rfl rfl (fun _ => ?_) (fun h => absurd (by first | decide | omega) h)) | (refine MC.cond rfl (fun h => absurd h (by first | decide | omega)) (fun _ => ?_)) | (refine MC.cond rfl (fun _ => ?_) (fun h => absurd (by first | decide | omega) h)))
      refine MC.does true (does_call rfl (hi2)) rfl ?_
      rintro _ w ⟨rfl, r3, hs⟩
      repeat (first | (refine MC.run1 tab 1000 rfl rfl (by first | exact True.intro | (simp only [Conds, rng, Int.toNat_natCast, List.length_append, bytesV_length] <;> omega) | (simp [Conds, rng] <;> omega)) ?_) | (refine MC.la true (la_load1 hs rfl (by rfl)) rfl ?_) | (refine MC.part rfl rfl (fun h => absurd h (by first | decide | omega)) (fun _ => ?_)) | (refine MC.part rfl rfl (fun _ => ?_) (fun h => absurd (by first | decide | omega) h)) | (refine MC.cond rfl (fun h => absurd h (by first | decide | omega)) (fun _ => ?_)) | (refine MC.cond rfl (fun _ => ?_) (fun h => absurd (by first | decide | omega) h)))
      refine MC.part rfl rfl (fun _ => ?_) (fun h => absurd rfl h)
      repeat (first | (refine MC.run1 tab 1000 rfl rfl (by first | exact True.intro | (simp only [Conds, rng, Int.toNat_natCast, List.length_append, bytesV_length] <;> omega) | (simp [Conds, rng] <;> omega)) ?_) | (refine MC.la true (la_load1 hs rfl (by rfl)) rfl ?_) | (refine MC.part rfl rfl (fun h => absurd h (by first | decide | omega)) (fun _ => ?_)) | (refine MC.part rfl rfl (fun _ => ?_) (fun h => absurd (by first | decide | omega) h)) | (refine MC.cond rfl (fun h => absurd h (by first | decide | omega)) (fun _ => ?_)) | (refine MC.cond rfl (fun _ => ?_) (fun h => absurd (by first | decide | omega) h)))
      refine MC.ret rfl ?_
      exact ⟨congrArg Value.bool (decide_eq_true (by omega)), Suf.sat hs⟩
    · (try dsimp only [List.drop_succ_cons, List.drop_zero, List.take_succ_cons, List.take_zero, List.cons_append, List.nil_append])
      refine MC.loop (σ := Nat) (fun i => [(5, true, ptr p), (7, true, str B), (10, true, .slice (some ⟨b, 0, none⟩) E.O.length E.O.length), (73, true, int E.O.length), (74, true, int ((i : Nat) : Int))])
        (fun i w => i ≤ E.O.length ∧ Sat (blk b (boolsV (List.replicate i true) ++ reps (E.O.length - i) (bool false)) 4 :: dev p E :: F) w) (fun i => E.O.length - i) 0 (by repeat (first | exact trivial | refine ⟨rfl, ?_⟩)) ⟨by omega, hs⟩ ?_
      rintro i w ⟨hi, hs⟩
      repeat (first | (refine MC.run1 tab 1000 rfl rfl (by first | exact True.intro | (simp only [Conds, rng, Int.toNat_natCast, List.length_append, bytesV_length] <;> omega) | (simp [Conds, rng] <;> omega)) ?_) | (refine MC.la true (la_load1 hs rfl (by rfl)) rfl ?_) | (refine MC.part rfl rfl (fun h => absurd h (by first | decide | omega)) (fun _ => ?_)) | (refine MC.part rfl rfl (fun _ => ?_) (fun h => absurd (by first | decide | omega) h)) | (refine MC.cond rfl (fun h => absurd h (by first | decide | omega)) (fun _ => ?_)) | (refine MC.cond rfl (fun _ => ?_) (fun h => absurd (by first | decide | omega) h)))
      refine MC.cond rfl (fun hlt => ?_) (fun hge => ?_)
      · repeat (first | (refine MC.run1 tab 1000 rfl rfl (by first | exact True.intro | (simp only [Conds, rng, Int.toNat_natCast, List.length_append, bytesV_length] <;> omega) | (simp [Conds, rng] <;> omega)) ?_) | (refine MC.la true (la_load1 hs rfl (by rfl)) rfl ?_) | (refine MC.part rfl rfl (fun h => absurd h (by first | decide | omega)) (fun _ => ?_)) | (refine MC.part rfl rfl (fun _ => ?_) (fun h => absurd (by first | decide | omega) h)) | (refine MC.cond rfl (fun h => absurd h (by first | decide | omega)) (fun _ => ?_)) | (refine MC.cond rfl (fun _ => ?_) (fun h => absurd (by first | decide | omega) h)))
        refine MC.does true (does_store1 hs rfl rfl rfl (by simp [boolsV]; omega)) rfl ?_
        intro _ w hs
        repeat (first | (refine MC.run1 tab 1000 rfl rfl (by first | exact True.intro | (simp only [Conds, rng, Int.toNat_natCast, List.length_append, bytesV_length] <;> omega) | (simp [Conds, rng] <;> omega)) ?_) | (refine MC.la true (la_load1 hs rfl (by rfl)) rfl ?_) | (refine MC.part rfl rfl (fun h => absurd h (by first | decide | omega)) (fun _ => ?_)) | (refine MC.part rfl rfl (fun _ => ?_) (fun h => absurd (by first | decide | omega) h)) | (refine MC.cond rfl (fun h => absurd h (by first | decide | omega)) (fun _ => ?_)) | (refine MC.cond rfl (fun _ => ?_) (fun h => absurd (by first | decide | omega) h)))
        refine MC.again (i + 1) (by repeat (first | exact trivial | refine ⟨rfl, ?_⟩)) ⟨by omega, ?_⟩ (by omega)
        have e : (boolsV (List.replicate i true) ++ reps (E.O.length - i) (bool false)).set (0 + (i : Int).toNat * 1) (bool true) = boolsV (List.replicate (i + 1) true) ++ reps (E.O.length - (i + 1)) (bool false) := by
          have h1 : E.O.length - i = (E.O.length - (i + 1)) + 1 := by omega
          have h2 : reps (E.O.length - (i + 1) + 1) (bool false) = bool false :: reps (E.O.length - (i + 1)) (bool false) := rfl
          rw [h1, h2, List.replicate_succ']
          simp [boolsV, List.set_append]
        rw [e] at hs
        exact hs
      · obtain rfl : i = E.O.length := by omega
        repeat (first | (refine MC.run1 tab 1000 rfl rfl (by first | exact True.intro | (simp only [Conds, rng, Int.toNat_natCast, List.length_append, bytesV_length] <;> omega) | (simp [Conds, rng] <;> omega)) ?_) | (refine MC.la true (la_load1 hs rfl (by rfl)) rfl ?_) | (refine MC.part rfl rfl (fun h => absurd h (by first | decide | omega)) (fun _ => ?_)) | (refine MC.part rfl rfl (fun _ => ?_) (fun h => absurd (by first | decide | omega) h)) | (refine MC.cond rfl (fun h => absurd h (by first | decide | omega)) (fun _ => ?_)) | (refine MC.cond rfl (fun _ => ?_) (fun h => absurd (by first | decide | omega) h)))
        refine MC.meet (by repeat (first | exact trivial | refine ⟨rfl, ?_⟩)) ?_
        rw [Nat.sub_self] at hs
        have e : boolsV (List.replicate E.O.length true) ++ reps 0 (bool false) = boolsV (List.replicate E.O.length true) := List.append_nil _
        rw [e] at hs
        exact hs
  (try dsimp only [List.drop_succ_cons, List.drop_zero, List.take_succ_cons, List.take_zero, List.cons_append, List.nil_append])
  refine MC.loop (σ := Nat) (fun i => [(1, true, .slice qb' acts.length cb'), (5, true, ptr p), (7, true, str B), (8, true, int ((i : Nat) : Int))])
    (fun i w => i ≤ acts.length ∧ i ≤ 40 ∧ Sat (dev p (G'.puts (acts.take i)) :: F) w) (fun i => 40 - i) 0 (by repeat (first | exact trivial | refine ⟨rfl, ?_⟩)) ⟨by omega, by omega, hs⟩ ?_
  rintro i w ⟨hi, hi4, hs⟩
  have hfr := Dev.from_.puts (acts.take i) (Dev.from_.refl hGr)
  have hEO : (G'.puts (acts.take i)).O.length ≤ 40 := by
    have := hfr.few
    rw [List.length_take] at this
    omega
  have hE := hfr.ok
  repeat (first | (refine MC.run1 tab 1000 rfl rfl (by first | exact True.intro | (simp only [Conds, rng, Int.toNat_natCast, List.length_append, bytesV_length] <;> omega) | (simp [Conds, rng] <;> omega)) ?_) | (refine MC.la true (la_load1 hs rfl (by rfl)) rfl ?_) | (refine MC.part rfl rfl (fun h => absurd h (by first | decide | omega)) (fun _ => ?_)) | (refine MC.part rfl rfl (fun _ => ?_) (fun h => absurd (by first | decide | omega) h)) | (refine MC.cond rfl (fun h => absurd h (by first | decide | omega)) (fun _ => ?_)) | (refine MC.cond rfl (fun _ => ?_) (fun h => absurd (by first | decide | omega) h)))
  refine MC.part rfl rfl (fun h1 => ?_) (fun h1 => ?_)
  · have hlt : i < acts.length := by omega
    repeat (first | (refine MC.run1 tab 1000 rfl rfl (by first | exact True.intro | (simp only [Conds, rng, Int.toNat_natCast, List.length_append, bytesV_length] <;> omega) | (simp [Conds, rng] <;> omega)) ?_) | (refine MC.la true (la_load1 hs rfl (by rfl)) rfl ?_) | (refine MC.part rfl rfl (fun h => absurd h (by first | decide | omega)) (fun _ => ?_)) | (refine MC.part rfl rfl (fun _ => ?_) (fun h => absurd (by first | decide | omega) h)) | (refine MC.cond rfl (fun h => absurd h (by first | decide | omega)) (fun _ => ?_)) | (refine MC.cond rfl (fun _ => ?_) (fun h => absurd (by first | decide | omega) h)))
    refine MC.cond rfl (fun h2 => ?_) (fun h2 => ?_)
    · obtain ⟨ba, oa, rfl, hr⟩ := hb.at_ (by omega)
      have hao := hokb _ (List.getElem_mem hlt)
      have hrow : ((acts.flatMap ActR.row).drop (i * 6)).take 6 = acts[i].row := rows_get (fun x _ => x.row_length) hlt
      have hstep : ∀ E, G'.puts (acts.take i) = E → G'.puts (acts.take (i + 1)) = E.act0 acts[i] := fun E e => by rw [Dev.puts_take hlt, e]
      generalize G'.puts (acts.take i) = E at hs hEO hE hstep
      have hstep := hstep E rfl
      generalize acts[i] = a at hao hrow hstep
      obtain ⟨kd, k, at', by', qb, cb, bytes, qk, ck, kept⟩ := a
      have hbytes := hao.bytes
      dsimp only [ActR.row] at hrow hbytes
      repeat (first | (refine MC.run1 tab 1000 rfl rfl (by first | exact True.intro | (simp only [Conds, rng, Int.toNat_natCast, List.length_append, bytesV_length] <;> omega) | (simp [Conds, rng] <;> omega)) ?_) | (refine MC.la true (la_load1 hs rfl (by rfl)) rfl ?_) | (refine MC.part rfl rfl (fun h => absurd h (by first | decide | omega)) (fun _ => ?_)) | (refine MC.part rfl rfl (fun _ => ?_) (fun h => absurd (by first | decide | omega) h)) | (refine MC.cond rfl (fun h => absurd h (by first | decide | omega)) (fun _ => ?_)) | (refine MC.cond rfl (fun _ => ?_) (fun h => absurd (by first | decide | omega) h)))
      refine MC.la true (la_loadV_rd hr hs (j := i * 6) rfl (vs := [int kd, int k, int at', byte by', .slice qb bytes.length cb, .slice qk kept.length ck]) hrow rfl rfl) rfl ?_
      refine MC.does true (does_alloc hs) rfl ?_; rintro _ w ⟨_, rfl, hs⟩
      refine MC.does true (does_store (vs := [int kd, int k, int at', byte by', .slice qb bytes.length cb, .slice qk kept.length ck]) hs rfl rfl rfl rfl (ActR.row_one ⟨kd, k, at', by', qb, cb, bytes, qk, ck, kept⟩) (by simp)) rfl ?_
      intro _ w hs
      rw [splice_all (by rfl)] at hs
      repeat (first | (refine MC.run1 tab 1000 rfl rfl (by first | exact True.intro | (simp only [Conds, rng, Int.toNat_natCast, List.length_append, bytesV_length] <;> omega) | (simp [Conds, rng] <;> omega)) ?_) | (refine MC.la true (la_load1 hs rfl (by rfl)) rfl ?_) | (refine MC.part rfl rfl (fun h => absurd h (by first | decide | omega)) (fun _ => ?_)) | (refine MC.part rfl rfl (fun _ => ?_) (fun h => absurd (by first | decide | omega) h)) | (refine MC.cond rfl (fun h => absurd h (by first | decide | omega)) (fun _ => ?_)) | (refine MC.cond rfl (fun _ => ?_) (fun h => absurd (by first | decide | omega) h)))
      refine MC.part rfl rfl (fun h3 => ?_) (fun h3 => ?_)
      · repeat (first | (refine MC.run1 tab 1000 rfl rfl (by first | exact True.intro | (simp only [Conds, rng, Int.toNat_natCast, List.length_append, bytesV_length] <;> omega) | (simp [Conds, rng] <;> omega)) ?_) | (refine MC.la true (la_load1 hs rfl (by rfl)) rfl ?_) | (refine MC.part rfl rfl (fun h => absurd h (by first | decide | omega)) (fun _ => ?_)) | (refine MC.part rfl rfl (fun _ => ?_) (fun h => absurd (by first | decide | omega) h)) | (refine MC.cond rfl (fun h => absurd h (by first | decide | omega)) (fun _ => ?_)) | (refine MC.cond rfl (fun _ => ?_) (fun h => absurd (by first | decide | omega) h)))
        refine MC.cond rfl (fun h4 => ?_) (fun h4 => ?_)
        · repeat (first | (refine MC.run1 tab 1000 rfl rfl (by first | exact True.intro | (simp only [Conds, rng, Int.toNat_natCast, List.length_append, bytesV_length] <;> omega) | (simp [Conds, rng] <;> omega)) ?_) | (refine MC.la true (la_load1 hs rfl (by rfl)) rfl ?_) | (refine MC.part rfl rfl (fun h => absurd h (by first | decide | omega)) (fun _ => ?_)) | (refine MC.part rfl rfl (fun _ => ?_) (fun h => absurd (by first | decide | omega) h)) | (refine MC.cond rfl (fun h => absurd h (by first | decide | omega)) (fun _ => ?_)) | (refine MC.cond rfl (fun _ => ?_) (fun h => absurd (by first | decide | omega) h)))
          refine MC.draw hs [0,1,2,3,4,5,6,7,8] (by rfl) ?_; intro w hs
          repeat (first | (refine MC.run1 tab 1000 rfl rfl (by first | exact True.intro | (simp only [Conds, rng, Int.toNat_natCast, List.length_append, bytesV_length] <;> omega) | (simp [Conds, rng] <;> omega)) ?_) | (refine MC.laD true (la_load1 hs rfl (by rfl)) rfl ?_) | (refine MC.part rfl rfl (fun h => absurd h (by first | decide | omega)) (fun _ => ?_)) | (refine MC.part rfl rfl (fun _ => ?_) (fun h => absurd (by first | decide | omega) h)) | (refine MC.cond rfl (fun h => absurd h (by first | decide | omega)) (fun _ => ?_)) | (refine MC.cond rfl (fun _ => ?_) (fun h => absurd (by first | decide | omega) h)))
          refine MC.doesK true (does_call rfl (filled_spec (c := by') (l := bytes) hs hbytes.up)) rfl rfl rfl ?_
          rintro _ w ⟨b6, rfl, hs⟩
          refine ⟨(by repeat (first | exact True.intro | refine ⟨At.sat hs, ?_⟩ | refine ⟨Suf.sat hs, ?_⟩)), ?_⟩
          have hs := hs.pickF 3 [2, 0, 1] rfl rfl
          (try dsimp only [List.eraseIdx, List.cons_append, List.nil_append, List.drop_succ_cons, List.drop_zero, List.append_eq] at hs)
          have hw := write_spec (k := k) hs hE (filled_rd (b := b6) (c := by') (l := bytes)) (by omega)
          rw [filled_length] at hw
          refine MC.doesK true (does_call rfl hw) rfl rfl rfl ?_
          rintro _ w ⟨rfl, hs⟩
          refine ⟨(by repeat (first | exact True.intro | refine ⟨At.sat hs, ?_⟩ | refine ⟨Suf.sat hs, ?_⟩)), ?_⟩
          repeat (first | (refine MC.run1 tab 1000 rfl rfl (by first | exact True.intro | (simp only [Conds, rng, Int.toNat_natCast, List.length_append, bytesV_length] <;> omega) | (simp [Conds, rng] <;> omega)) ?_) | (refine MC.la true (la_load1 hs rfl (by rfl)) rfl ?_) | (refine MC.part rfl rfl (fun h => absurd h (by first | decide | omega)) (fun _ => ?_)) | (refine MC.part rfl rfl (fun _ => ?_) (fun h => absurd (by first | decide | omega) h)) | (refine MC.cond rfl (fun h => absurd h (by first | decide | omega)) (fun _ => ?_)) | (refine MC.cond rfl (fun _ => ?_) (fun h => absurd (by first | decide | omega) h)))
          refine MC.again (i + 1) (by repeat (first | exact trivial | refine ⟨rfl, ?_⟩)) ⟨hlt, by omega, ?_⟩ (by omega)
          have hs := hs.pickF 3 [0] rfl rfl
          have h4' : bytes.length ≤ 256 := by omega
          rw [hstep, Dev.act0, if_pos ⟨h3, h4'⟩, Dev.put, if_pos h4']
          exact hs
        · repeat (first | (refine MC.run1 tab 1000 rfl rfl (by first | exact True.intro | (simp only [Conds, rng, Int.toNat_natCast, List.length_append, bytesV_length] <;> omega) | (simp [Conds, rng] <;> omega)) ?_) | (refine MC.la true (la_load1 hs rfl (by rfl)) rfl ?_) | (refine MC.part rfl rfl (fun h => absurd h (by first | decide | omega)) (fun _ => ?_)) | (refine MC.part rfl rfl (fun _ => ?_) (fun h => absurd (by first | decide | omega) h)) | (refine MC.cond rfl (fun h => absurd h (by first | decide | omega)) (fun _ => ?_)) | (refine MC.cond rfl (fun _ => ?_) (fun h => absurd (by first | decide | omega) h)))
          refine MC.again (i + 1) (by repeat (first | exact trivial | refine ⟨rfl, ?_⟩)) ⟨hlt, by omega, ?_⟩ (by omega)
          rw [hstep, Dev.act0, if_neg (fun h => h4 (Int.ofNat_le.2 h.2))]
          exact hs.tail
      · repeat (first | (refine MC.run1 tab 1000 rfl rfl (by first | exact True.intro | (simp only [Conds, rng, Int.toNat_natCast, List.length_append, bytesV_length] <;> omega) | (simp [Conds, rng] <;> omega)) ?_) | (refine MC.la true (la_load1 hs rfl (by rfl)) rfl ?_) | (refine MC.part rfl rfl (fun h => absurd h (by first | decide | omega)) (fun _ => ?_)) | (refine MC.part rfl rfl (fun _ => ?_) (fun h => absurd (by first | decide | omega) h)) | (refine MC.cond rfl (fun h => absurd h (by first | decide | omega)) (fun _ => ?_)) | (refine MC.cond rfl (fun _ => ?_) (fun h => absurd (by first | decide | omega) h)))
        refine MC.again (i + 1) (by repeat (first | exact trivial | refine ⟨rfl, ?_⟩)) ⟨hlt, by omega, ?_⟩ (by omega)
        rw [hstep, Dev.act0, if_neg (fun h => h3 h.1)]
        exact hs.tail
    · have hi' : i = 40 := by omega
      subst hi'
      repeat (first | (refine MC.run1 tab 1000 rfl rfl (by first | exact True.intro | (simp only [Conds, rng, Int.toNat_natCast, List.length_append, bytesV_length] <;> omega) | (simp [Conds, rng] <;> omega)) ?_) | (refine MC.la true (la_load1 hs rfl (by rfl)) rfl ?_) | (refine MC.part rfl rfl (fun h => absurd h (by first | decide | omega)) (fun _ => ?_)) | (refine MC.part rfl rfl (fun _ => ?_) (fun h => absurd (by first | decide | omega) h)) | (refine MC.cond rfl (fun h => absurd h (by first | decide | omega)) (fun _ => ?_)) | (refine MC.cond rfl (fun _ => ?_) (fun h => absurd (by first | decide | omega) h)))
      exact MC.meet (by repeat (first | exact trivial | refine ⟨rfl, ?_⟩)) hs
  · repeat (first | (refine MC.run1 tab 1000 rfl rfl (by first | exact True.intro | (simp only [Conds, rng, Int.toNat_natCast, List.length_append, bytesV_length] <;> omega) | (simp [Conds, rng] <;> omega)) ?_) | (refine MC.la true (la_load1 hs rfl (by rfl)) rfl ?_) | (refine MC.part rfl rfl (fun h => absurd h (by first | decide | omega)) (fun _ => ?_)) | (refine MC.part rfl rfl (fun _ => ?_) (fun h => absurd (by first | decide | omega) h)) | (refine MC.cond rfl (fun h => absurd h (by first | decide | omega)) (fun _ => ?_)) | (refine MC.cond rfl (fun _ => ?_) (fun h => absurd (by first | decide | omega) h)))
    refine MC.meet (by repeat (first | exact trivial | refine ⟨rfl, ?_⟩)) ?_
    have : acts.take 40 = acts.take i := by rw [List.take_of_length_le (by omega), List.take_of_length_le (by omega)]
    rw [this]
    exact hs
end Go.Proofs.Ytoljbocejclaeaa
