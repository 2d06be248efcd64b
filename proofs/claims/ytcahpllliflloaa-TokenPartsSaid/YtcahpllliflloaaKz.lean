/- Tokens: Parts, and the document's. -/
import Derived.Test.YtcahpllliflloaaKu
import Derived.Test.YtcahpllliflloaaKy
set_option linter.unusedVariables false
set_option linter.unusedSimpArgs false
namespace Go.Tk
theorem slc_app {q : Bs} {a b c : Nat} (h1 : a ≤ b) (h2 : b ≤ c) (h3 : c ≤ q.length) : slc q a b ++ slc q b c = slc q a c := by
  unfold slc
  rw [List.drop_take, List.drop_take, List.drop_take]
  have e : c - a = (b - a) + (c - b) := by omega
  have e2 : a + (b - a) = b := by omega
  rw [e, List.take_add, List.drop_drop, e2]
theorem slc_self (q : Bs) (a : Nat) : slc q a a = [] := by
  unfold slc
  rw [List.drop_eq_nil_of_le]; rw [List.length_take]; omega
def glue (x y : List Bs) (z : List Nat) (r : Pa) : Pa := (x ++ r.1, y ++ r.2.1, z ++ r.2.2)
theorem glue_nil (r : Pa) : glue [] [] [] r = r := rfl
theorem glue_put (x y : List Bs) (z : List Nat) (a b : Bs) (n : Nat) (r : Pa) : glue x y z (r.put a b n) = glue (x ++ [a]) (y ++ [b]) (z ++ [n]) r := by
  simp [glue, Pa.put]
end Go.Tk
namespace Go.Proofs.Ytcahpllliflloaa
open Go Go.Sl Go.Tk
attribute [local irreducible] LooksAt

def natsV (l : List Nat) : List Value := l.map fun n => int ((n : Nat) : Int)
theorem natsV_one (l : List Nat) : ∀ u ∈ natsV l, u.oneCell' = true := by
  intro u hu
  obtain ⟨n, _, rfl⟩ := List.mem_map.1 hu
  rfl
theorem strsV_snoc (l : List Bs) (x : Bs) : strsV (l ++ [x]) = strsV l ++ [str x] := by simp [strsV]
theorem natsV_snoc (l : List Nat) (x : Nat) : natsV (l ++ [x]) = natsV l ++ [int ((x : Nat) : Int)] := by simp [natsV]
abbrev strsS (v : Value) (l : List Bs) : Assn := sl v 9 1 l.length (strsV l)
abbrev natsS (v : Value) (l : List Nat) : Assn := sl v 3 1 l.length (natsV l)
theorem byteAt_getD {q : Bs} {k : Nat} (h : k < q.length) : byteAt q ((k : Nat) : Int).toNat = ((q.getD k 0).toNat : Int) := by
  obtain ⟨c, u, hu⟩ := drop_lt h
  rw [(at_drop hu).1]
  rw [List.drop_eq_getElem_cons h] at hu
  injection hu with h1 _
  rw [← h1]; simp [List.getD_eq_getElem?_getD, h]
def partsP (F : List Assn) (q : Bs) (v : Value) (w' : World) : Prop :=
  (Whole q ∧ ∃ va vb vc, v = .tuple #[va, vb, vc, int 0] ∧ Sat (strsS va (partsR (nextD 47) q 1 1).1 :: strsS vb (partsR (nextD 47) q 1 1).2.1 :: natsS vc (partsR (nextD 47) q 1 1).2.2 :: F) w') ∨
  (¬ Whole q ∧ v = .tuple #[.slice none 0 0, .slice none 0 0, .slice none 0 0, int 20] ∧ Sat F w')
theorem one_str (x : Bs) : ∀ u ∈ [str x], u.oneCell' = true := strsV_one [x]
theorem one_nat (x : Nat) : ∀ u ∈ [int ((x : Nat) : Int)], u.oneCell' = true := natsV_one [x]
set_option maxHeartbeats 8000000 in
theorem parts_spec {F : List Assn} {w : World} (q : Bs) (hs : Sat F w) (hM : MaxC F) (hl : q.length ≤ 9223372036854775807) :
    Ret Try.prog 15 [str q] w (partsP F q) := by
  have hsc := scan_spec q hs hM hl
  refine Ret.enter [(true, str q)] _ Try.func15 rfl Try.ntmps15 rfl ?_
  cases hsq : scanL q with
  | err a e =>
    have he := scanL_e hsq
    have he1 : 1 ≤ e := he.1.1
    have hnw : ¬ Whole q := fun h => by have := whole_scan h; rw [hsq] at this; cases this
    rw [hsq] at hsc
    repeat (first | (refine MC.run1 tab 1000 rfl rfl (by first | exact True.intro | (simp only [Conds, rng, Int.toNat_natCast, List.length_append, bytesV_length] <;> omega) | (simp [Conds, rng] <;> omega) | (simp only [Conds, rng, wrap_u8, wrap_u16, wrap_u32, wrap_u64] <;> omega)) ?_) | (refine MC.la true (la_load1 hs rfl (by rfl)) rfl ?_) | (refine MC.part rfl rfl (fun h => absurd h (by first | decide | omega)) (fun _ => ?_)) | (refine MC.part rfl rfl (fun _ => ?_) (fun h => absurd (by first | decide | omega) h)) | (refine MC.cond rfl (fun h => absurd h (by first | decide | omega)) (fun _ => ?_)) | (refine MC.cond rfl (fun _ => ?_) (fun h => absurd (by first | decide | omega) h)))
    refine MC.does true (does_call rfl (hsc)) rfl ?_
    rintro _ w ⟨rfl, hs⟩
    repeat (first | (refine MC.run1 tab 1000 rfl rfl (by first | exact True.intro | (simp only [Conds, rng, Int.toNat_natCast, List.length_append, bytesV_length] <;> omega) | (simp [Conds, rng] <;> omega) | (simp only [Conds, rng, wrap_u8, wrap_u16, wrap_u32, wrap_u64] <;> omega)) ?_) | (refine MC.la true (la_load1 hs rfl (by rfl)) rfl ?_) | (refine MC.part rfl rfl (fun h => absurd h (by first | decide | omega)) (fun _ => ?_)) | (refine MC.part rfl rfl (fun _ => ?_) (fun h => absurd (by first | decide | omega) h)) | (refine MC.cond rfl (fun h => absurd h (by first | decide | omega)) (fun _ => ?_)) | (refine MC.cond rfl (fun _ => ?_) (fun h => absurd (by first | decide | omega) h)))
    refine MC.ret rfl ?_
    exact .inr ⟨hnw, rfl, hs⟩
  | ok l =>
    have hbd := scanL_bd hsq
    rw [hsq] at hsc
    by_cases h1 : l.length = 1
    · obtain ⟨x, rfl⟩ : ∃ x, l = [x] := by
        match l, h1 with
        | [x], _ => exact ⟨x, rfl⟩
      obtain ⟨k, tx, p⟩ := x
      have c1 : ([(k, tx, p)] : List Tok).length = 1 := rfl
      by_cases h5 : k = 5
      · have h5' : ((k : Nat) : Int) = 5 := by omega
        by_cases htl : tx.length = q.length
        · have hW : Whole q := scan_whole hsq h5 htl
          obtain ⟨hqr, hq2⟩ := whole_inner hW
          have hW1 := hW.1
          repeat (first | (refine MC.run1 tab 1000 rfl rfl (by first | exact True.intro | (simp only [Conds, rng, Int.toNat_natCast, List.length_append, bytesV_length] <;> omega) | (simp [Conds, rng] <;> omega) | (simp only [Conds, rng, wrap_u8, wrap_u16, wrap_u32, wrap_u64] <;> omega)) ?_) | (refine MC.la true (la_load1 hs rfl (by rfl)) rfl ?_) | (refine MC.part rfl rfl (fun h => absurd h (by first | decide | omega)) (fun _ => ?_)) | (refine MC.part rfl rfl (fun _ => ?_) (fun h => absurd (by first | decide | omega) h)) | (refine MC.cond rfl (fun h => absurd h (by first | decide | omega)) (fun _ => ?_)) | (refine MC.cond rfl (fun _ => ?_) (fun h => absurd (by first | decide | omega) h)))
          refine MC.does true (does_call rfl (hsc)) rfl ?_
          rintro _ w ⟨v1, rfl, hs⟩
          rcases hs.sl_cases with ⟨_, h0, _⟩ | ⟨q1, c1', sp1, rfl, _, _, _, hs⟩
          · exact absurd h0 (by simp)
          have hs : Sat (blk q1 ([int ((k : Nat) : Int), str tx, int ((p : Nat) : Int)] ++ sp1) 36 :: F) w := hs
          repeat (first | (refine MC.run1 tab 1000 rfl rfl (by first | exact True.intro | (simp only [Conds, rng, Int.toNat_natCast, List.length_append, bytesV_length] <;> omega) | (simp [Conds, rng] <;> omega) | (simp only [Conds, rng, wrap_u8, wrap_u16, wrap_u32, wrap_u64] <;> omega)) ?_) | (refine MC.la true (la_load1 hs rfl (by rfl)) rfl ?_) | (refine MC.part rfl rfl (fun h => absurd h (by first | decide | omega)) (fun _ => ?_)) | (refine MC.part rfl rfl (fun _ => ?_) (fun h => absurd (by first | decide | omega) h)) | (refine MC.cond rfl (fun h => absurd h (by first | decide | omega)) (fun _ => ?_)) | (refine MC.cond rfl (fun _ => ?_) (fun h => absurd (by first | decide | omega) h)))
          refine MC.pure (f := true) (po_build (ls := [(0, [str q]), (1, [int 1])]) (out := [str q, int 1]) rfl rfl ⟨⟨_, rfl, by simp⟩, ⟨_, rfl, by simp⟩, trivial⟩ rfl) rfl ?_
          refine MC.does true (does_box hs rfl rfl) rfl ?_; rintro _ w ⟨bx, rfl, hs⟩
          repeat (first | (refine MC.run1 tab 1000 rfl rfl (by first | exact True.intro | (simp only [Conds, rng, Int.toNat_natCast, List.length_append, bytesV_length] <;> omega) | (simp [Conds, rng] <;> omega) | (simp only [Conds, rng, wrap_u8, wrap_u16, wrap_u32, wrap_u64] <;> omega)) ?_) | (refine MC.la true (la_load1 hs rfl (by rfl)) rfl ?_) | (refine MC.part rfl rfl (fun h => absurd h (by first | decide | omega)) (fun _ => ?_)) | (refine MC.part rfl rfl (fun _ => ?_) (fun h => absurd (by first | decide | omega) h)) | (refine MC.cond rfl (fun h => absurd h (by first | decide | omega)) (fun _ => ?_)) | (refine MC.cond rfl (fun _ => ?_) (fun h => absurd (by first | decide | omega) h)))
          have hs : Sat (scn bx q 1 :: F) w := (hs.swap.tail : _)
          have hs := (hs.sl_nil 3 1)
          have hs := (hs.sl_nil 9 1)
          have hs := (hs.sl_nil 9 1)
          have hs : Sat (scn bx q 1 :: strsS (.slice none 0 0) [] :: strsS (.slice none 0 0) [] :: natsS (.slice none 0 0) [] :: F) w := hs.pickF 4 [3, 0, 1, 2] rfl rfl
          refine MC.loop (σ := (Nat × Nat) × (List Bs × List Bs × List Nat) × (Value × Value × Value)) (fun x => [(0, true, str q), (2, true, x.2.2.1), (3, true, x.2.2.2.1), (4, true, x.2.2.2.2), (9, true, int ((x.1.2 : Nat) : Int)), (10, true, ptr bx)])
            (fun x w => x.1.1 < q.length ∧ x.1.2 ≤ x.1.1 ∧ 1 ≤ x.1.2 ∧ quoteR (nextD 47) (q.drop x.1.1) = .ok (q.length - x.1.1) ∧ partsR (nextD 47) q 1 1 = glue x.2.1.1 x.2.1.2.1 x.2.1.2.2 (partsR (nextD 47) q x.1.2 x.1.1) ∧
              x.2.1.1.length ≤ x.1.1 ∧ x.2.1.2.1.length ≤ x.1.1 ∧ x.2.1.2.2.length ≤ x.1.1 ∧ Sat (scn bx q x.1.1 :: strsS x.2.2.1 x.2.1.1 :: strsS x.2.2.2.1 x.2.1.2.1 :: natsS x.2.2.2.2 x.2.1.2.2 :: F) w)
            (fun x => q.length - x.1.1) ((1, 1), ([], [], []), (.slice none 0 0, .slice none 0 0, .slice none 0 0)) (by repeat (first | exact trivial | refine ⟨rfl, ?_⟩))
            ⟨by show 1 < q.length; omega, Nat.le_refl _, Nat.le_refl _, hqr, by rw [glue_nil], Nat.zero_le _, Nat.zero_le _, Nat.zero_le _, hs⟩ ?_
          rintro ⟨⟨j, a⟩, ⟨tt, ff, aa⟩, va, vb, vc⟩ w hx
          clear hs
          replace hx : j < q.length ∧ a ≤ j ∧ 1 ≤ a ∧ quoteR (nextD 47) (q.drop j) = .ok (q.length - j) ∧ partsR (nextD 47) q 1 1 = glue tt ff aa (partsR (nextD 47) q a j) ∧ tt.length ≤ j ∧ ff.length ≤ j ∧ aa.length ≤ j ∧ Sat (scn bx q j :: strsS va tt :: strsS vb ff :: natsS vc aa :: F) w := hx
          obtain ⟨hj, haj, ha1, hqj, hgl, hlt, hlf, hla, hs⟩ := hx
          dsimp only []
          have hok := nextD_ok 47
          have bk := byteAt_getD hj
          cases at47 hj hqj with
          | last h =>
            rw [partsR_end (a := a) (k := j) (by omega)] at hgl
            have hsl : (q.take (((q.length : Nat) : Int) - 1).toNat).drop ((a : Nat) : Int).toNat = slc q a (q.length - 1) := by
              have e : (((q.length : Nat) : Int) - 1).toNat = q.length - 1 := by omega
              rw [e]; rfl
            repeat (first | (refine MC.run1 tab 1000 rfl rfl (by first | exact True.intro | (simp only [Conds, rng, Int.toNat_natCast, List.length_append, bytesV_length] <;> omega) | (simp [Conds, rng] <;> omega) | (simp only [Conds, rng, wrap_u8, wrap_u16, wrap_u32, wrap_u64] <;> omega)) ?_) | (refine MC.la true (la_load1 hs rfl (by rfl)) rfl ?_) | (refine MC.part rfl rfl (fun h => absurd h (by first | decide | omega)) (fun _ => ?_)) | (refine MC.part rfl rfl (fun _ => ?_) (fun h => absurd (by first | decide | omega) h)) | (refine MC.cond rfl (fun h => absurd h (by first | decide | omega)) (fun _ => ?_)) | (refine MC.cond rfl (fun _ => ?_) (fun h => absurd (by first | decide | omega) h)))
            rw [hsl]
            refine MC.does true (does_buildL hs rfl rfl rfl (by first | (intro u hu; simp only [List.mem_cons, List.not_mem_nil, or_false] at hu; rcases hu with rfl | rfl | rfl | rfl | rfl | rfl | rfl | rfl <;> rfl) | (intro u hu; simp only [List.mem_cons, List.not_mem_nil, or_false] at hu; rcases hu with rfl | rfl | rfl | rfl <;> rfl) | (intro u hu; simp only [List.mem_cons, List.not_mem_nil, or_false] at hu; rcases hu with rfl | rfl <;> rfl) | (intro u hu; simp only [List.mem_cons, List.not_mem_nil, or_false] at hu; subst hu; rfl)) rfl) rfl ?_; rintro _ w ⟨b1, rfl, hs⟩
            refine MC.does true (does_append hs rfl rfl (src_at rfl (one_str _)) (by omega) (by omega)) rfl ?_
            intro va' w hs
            repeat (first | (refine MC.run1 tab 1000 rfl rfl (by first | exact True.intro | (simp only [Conds, rng, Int.toNat_natCast, List.length_append, bytesV_length] <;> omega) | (simp [Conds, rng] <;> omega) | (simp only [Conds, rng, wrap_u8, wrap_u16, wrap_u32, wrap_u64] <;> omega)) ?_) | (refine MC.la true (la_load1 hs rfl (by rfl)) rfl ?_) | (refine MC.part rfl rfl (fun h => absurd h (by first | decide | omega)) (fun _ => ?_)) | (refine MC.part rfl rfl (fun _ => ?_) (fun h => absurd (by first | decide | omega) h)) | (refine MC.cond rfl (fun h => absurd h (by first | decide | omega)) (fun _ => ?_)) | (refine MC.cond rfl (fun _ => ?_) (fun h => absurd (by first | decide | omega) h)))
            refine MC.ret rfl ?_
            refine .inl ⟨hW, va', vb, vc, rfl, ?_⟩
            rw [hgl]
            dsimp only [glue]
            rw [List.append_nil, List.append_nil]
            show Sat (sl va' _ 1 (tt ++ [slc q a (q.length - 1)]).length (strsV (tt ++ [slc q a (q.length - 1)])) :: strsS vb ff :: natsS vc aa :: F) w
            rw [List.length_append, strsV_snoc]
            exact hs.tail.tail
          | plain h hc hn =>
            have hcb := UInt8.toNat_lt (q.getD j 0)
            have nc : ¬ ((q.getD j 0).toNat : Int) = 92 := fun e => hc (u8i (k := 92) e)
            rw [partsR_plain (a := a) (k := j) hok h hc] at hgl
            repeat (first | (refine MC.run1 tab 1000 rfl rfl (by first | exact True.intro | (simp only [Conds, rng, Int.toNat_natCast, List.length_append, bytesV_length] <;> omega) | (simp [Conds, rng] <;> omega) | (simp only [Conds, rng, wrap_u8, wrap_u16, wrap_u32, wrap_u64] <;> omega)) ?_) | (refine MC.la true (la_load1 hs rfl (by rfl)) rfl ?_) | (refine MC.part rfl rfl (fun h => absurd h (by first | decide | omega)) (fun _ => ?_)) | (refine MC.part rfl rfl (fun _ => ?_) (fun h => absurd (by first | decide | omega) h)) | (refine MC.cond rfl (fun h => absurd h (by first | decide | omega)) (fun _ => ?_)) | (refine MC.cond rfl (fun _ => ?_) (fun h => absurd (by first | decide | omega) h)))
            try rw [bk]
            repeat (first | (refine MC.run1 tab 1000 rfl rfl (by first | exact True.intro | (simp only [Conds, rng, Int.toNat_natCast, List.length_append, bytesV_length] <;> omega) | (simp [Conds, rng] <;> omega) | (simp only [Conds, rng, wrap_u8, wrap_u16, wrap_u32, wrap_u64] <;> omega)) ?_) | (refine MC.la true (la_load1 hs rfl (by rfl)) rfl ?_) | (refine MC.part rfl rfl (fun h => absurd h (by first | decide | omega)) (fun _ => ?_)) | (refine MC.part rfl rfl (fun _ => ?_) (fun h => absurd (by first | decide | omega) h)) | (refine MC.cond rfl (fun h => absurd h (by first | decide | omega)) (fun _ => ?_)) | (refine MC.cond rfl (fun _ => ?_) (fun h => absurd (by first | decide | omega) h)))
            refine MC.does true (does_store1 hs rfl rfl rfl (by first | decide | (simp; done) | (simp; omega))) rfl ?_; intro _ w hs
            repeat (first | (refine MC.run1 tab 1000 rfl rfl (by first | exact True.intro | (simp only [Conds, rng, Int.toNat_natCast, List.length_append, bytesV_length] <;> omega) | (simp [Conds, rng] <;> omega) | (simp only [Conds, rng, wrap_u8, wrap_u16, wrap_u32, wrap_u64] <;> omega)) ?_) | (refine MC.la true (la_load1 hs rfl (by rfl)) rfl ?_) | (refine MC.part rfl rfl (fun h => absurd h (by first | decide | omega)) (fun _ => ?_)) | (refine MC.part rfl rfl (fun _ => ?_) (fun h => absurd (by first | decide | omega) h)) | (refine MC.cond rfl (fun h => absurd h (by first | decide | omega)) (fun _ => ?_)) | (refine MC.cond rfl (fun _ => ?_) (fun h => absurd (by first | decide | omega) h)))
            refine MC.again ((j + 1, a), (tt, ff, aa), (va, vb, vc)) (by repeat (first | exact trivial | refine ⟨rfl, ?_⟩)) ⟨by show j + 1 < q.length; omega, by show a ≤ j + 1; omega, ha1, hn, hgl, by show tt.length ≤ j + 1; omega, by show ff.length ≤ j + 1; omega, by show aa.length ≤ j + 1; omega, hs⟩ (by show q.length - (j + 1) < q.length - j; omega)
          | back h hc hd hn =>
            have hc' : ((q.getD j 0).toNat : Int) = 92 := by rw [hc]; rfl
            have bk1 := byteAt_getD (show j + 1 < q.length by omega)
            have bk1 : byteAt q (((j : Nat) : Int) + 1).toNat = ((q.getD (j + 1) 0).toNat : Int) := bk1
            have hdb := UInt8.toNat_lt (q.getD (j + 1) 0)
            have nd : ¬ ((q.getD (j + 1) 0).toNat : Int) = 40 := fun e => hd (u8i (k := 40) e)
            rw [partsR_back (a := a) (k := j) hok (by omega) hc hd] at hgl
            repeat (first | (refine MC.run1 tab 1000 rfl rfl (by first | exact True.intro | (simp only [Conds, rng, Int.toNat_natCast, List.length_append, bytesV_length] <;> omega) | (simp [Conds, rng] <;> omega) | (simp only [Conds, rng, wrap_u8, wrap_u16, wrap_u32, wrap_u64] <;> omega)) ?_) | (refine MC.la true (la_load1 hs rfl (by rfl)) rfl ?_) | (refine MC.part rfl rfl (fun h => absurd h (by first | decide | omega)) (fun _ => ?_)) | (refine MC.part rfl rfl (fun _ => ?_) (fun h => absurd (by first | decide | omega) h)) | (refine MC.cond rfl (fun h => absurd h (by first | decide | omega)) (fun _ => ?_)) | (refine MC.cond rfl (fun _ => ?_) (fun h => absurd (by first | decide | omega) h)))
            try rw [bk]
            repeat (first | (refine MC.run1 tab 1000 rfl rfl (by first | exact True.intro | (simp only [Conds, rng, Int.toNat_natCast, List.length_append, bytesV_length] <;> omega) | (simp [Conds, rng] <;> omega) | (simp only [Conds, rng, wrap_u8, wrap_u16, wrap_u32, wrap_u64] <;> omega)) ?_) | (refine MC.la true (la_load1 hs rfl (by rfl)) rfl ?_) | (refine MC.part rfl rfl (fun h => absurd h (by first | decide | omega)) (fun _ => ?_)) | (refine MC.part rfl rfl (fun _ => ?_) (fun h => absurd (by first | decide | omega) h)) | (refine MC.cond rfl (fun h => absurd h (by first | decide | omega)) (fun _ => ?_)) | (refine MC.cond rfl (fun _ => ?_) (fun h => absurd (by first | decide | omega) h)))
            try rw [bk1]
            repeat (first | (refine MC.run1 tab 1000 rfl rfl (by first | exact True.intro | (simp only [Conds, rng, Int.toNat_natCast, List.length_append, bytesV_length] <;> omega) | (simp [Conds, rng] <;> omega) | (simp only [Conds, rng, wrap_u8, wrap_u16, wrap_u32, wrap_u64] <;> omega)) ?_) | (refine MC.la true (la_load1 hs rfl (by rfl)) rfl ?_) | (refine MC.part rfl rfl (fun h => absurd h (by first | decide | omega)) (fun _ => ?_)) | (refine MC.part rfl rfl (fun _ => ?_) (fun h => absurd (by first | decide | omega) h)) | (refine MC.cond rfl (fun h => absurd h (by first | decide | omega)) (fun _ => ?_)) | (refine MC.cond rfl (fun _ => ?_) (fun h => absurd (by first | decide | omega) h)))
            refine MC.does true (does_store1 hs rfl rfl rfl (by first | decide | (simp; done) | (simp; omega))) rfl ?_; intro _ w hs
            repeat (first | (refine MC.run1 tab 1000 rfl rfl (by first | exact True.intro | (simp only [Conds, rng, Int.toNat_natCast, List.length_append, bytesV_length] <;> omega) | (simp [Conds, rng] <;> omega) | (simp only [Conds, rng, wrap_u8, wrap_u16, wrap_u32, wrap_u64] <;> omega)) ?_) | (refine MC.la true (la_load1 hs rfl (by rfl)) rfl ?_) | (refine MC.part rfl rfl (fun h => absurd h (by first | decide | omega)) (fun _ => ?_)) | (refine MC.part rfl rfl (fun _ => ?_) (fun h => absurd (by first | decide | omega) h)) | (refine MC.cond rfl (fun h => absurd h (by first | decide | omega)) (fun _ => ?_)) | (refine MC.cond rfl (fun _ => ?_) (fun h => absurd (by first | decide | omega) h)))
            refine MC.again ((j + 2, a), (tt, ff, aa), (va, vb, vc)) (by repeat (first | exact trivial | refine ⟨rfl, ?_⟩)) ⟨by show j + 2 < q.length; omega, by show a ≤ j + 2; omega, ha1, hn, hgl, by show tt.length ≤ j + 2; omega, by show ff.length ≤ j + 2; omega, by show aa.length ≤ j + 2; omega, hs⟩ (by show q.length - (j + 2) < q.length - j; omega)
          | inn m h hm1 hc hd hi hn =>
            have hc' : ((q.getD j 0).toNat : Int) = 92 := by rw [hc]; rfl
            have bk1 := byteAt_getD (show j + 1 < q.length by omega)
            have bk1 : byteAt q (((j : Nat) : Int) + 1).toNat = ((q.getD (j + 1) 0).toNat : Int) := bk1
            have hd' : ((q.getD (j + 1) 0).toNat : Int) = 40 := by rw [hd]; rfl
            rw [partsR_in (a := a) (k := j) hok (by omega) hc hd hi, glue_put] at hgl
            have hsl : (q.take ((j : Nat) : Int).toNat).drop ((a : Nat) : Int).toNat = slc q a j := rfl
            repeat (first | (refine MC.run1 tab 1000 rfl rfl (by first | exact True.intro | (simp only [Conds, rng, Int.toNat_natCast, List.length_append, bytesV_length] <;> omega) | (simp [Conds, rng] <;> omega) | (simp only [Conds, rng, wrap_u8, wrap_u16, wrap_u32, wrap_u64] <;> omega)) ?_) | (refine MC.la true (la_load1 hs rfl (by rfl)) rfl ?_) | (refine MC.part rfl rfl (fun h => absurd h (by first | decide | omega)) (fun _ => ?_)) | (refine MC.part rfl rfl (fun _ => ?_) (fun h => absurd (by first | decide | omega) h)) | (refine MC.cond rfl (fun h => absurd h (by first | decide | omega)) (fun _ => ?_)) | (refine MC.cond rfl (fun _ => ?_) (fun h => absurd (by first | decide | omega) h)))
            try rw [bk]
            repeat (first | (refine MC.run1 tab 1000 rfl rfl (by first | exact True.intro | (simp only [Conds, rng, Int.toNat_natCast, List.length_append, bytesV_length] <;> omega) | (simp [Conds, rng] <;> omega) | (simp only [Conds, rng, wrap_u8, wrap_u16, wrap_u32, wrap_u64] <;> omega)) ?_) | (refine MC.la true (la_load1 hs rfl (by rfl)) rfl ?_) | (refine MC.part rfl rfl (fun h => absurd h (by first | decide | omega)) (fun _ => ?_)) | (refine MC.part rfl rfl (fun _ => ?_) (fun h => absurd (by first | decide | omega) h)) | (refine MC.cond rfl (fun h => absurd h (by first | decide | omega)) (fun _ => ?_)) | (refine MC.cond rfl (fun _ => ?_) (fun h => absurd (by first | decide | omega) h)))
            try rw [bk1]
            repeat (first | (refine MC.run1 tab 1000 rfl rfl (by first | exact True.intro | (simp only [Conds, rng, Int.toNat_natCast, List.length_append, bytesV_length] <;> omega) | (simp [Conds, rng] <;> omega) | (simp only [Conds, rng, wrap_u8, wrap_u16, wrap_u32, wrap_u64] <;> omega)) ?_) | (refine MC.la true (la_load1 hs rfl (by rfl)) rfl ?_) | (refine MC.part rfl rfl (fun h => absurd h (by first | decide | omega)) (fun _ => ?_)) | (refine MC.part rfl rfl (fun _ => ?_) (fun h => absurd (by first | decide | omega) h)) | (refine MC.cond rfl (fun h => absurd h (by first | decide | omega)) (fun _ => ?_)) | (refine MC.cond rfl (fun _ => ?_) (fun h => absurd (by first | decide | omega) h)))
            rw [hsl]
            refine MC.does true (does_buildL hs rfl rfl rfl (by first | (intro u hu; simp only [List.mem_cons, List.not_mem_nil, or_false] at hu; rcases hu with rfl | rfl | rfl | rfl | rfl | rfl | rfl | rfl <;> rfl) | (intro u hu; simp only [List.mem_cons, List.not_mem_nil, or_false] at hu; rcases hu with rfl | rfl | rfl | rfl <;> rfl) | (intro u hu; simp only [List.mem_cons, List.not_mem_nil, or_false] at hu; rcases hu with rfl | rfl <;> rfl) | (intro u hu; simp only [List.mem_cons, List.not_mem_nil, or_false] at hu; subst hu; rfl)) rfl) rfl ?_; rintro _ w ⟨b1, rfl, hs⟩
            refine MC.does true (does_append hs rfl rfl (src_at rfl (one_str _)) (by omega) (by omega)) rfl ?_
            intro va' w hs
            replace hs : Sat (scn bx q j :: sl va' 9 1 (tt.length + 1) (strsV tt ++ [str (slc q a j)]) :: strsS vb ff :: natsS vc aa :: F) w := hs.tail
            have ett : strsS va' (tt ++ [slc q a j]) = sl va' 9 1 (tt.length + 1) (strsV tt ++ [str (slc q a j)]) := by
              show sl va' _ 1 (tt ++ [slc q a j]).length (strsV (tt ++ [slc q a j])) = _
              rw [List.length_append, strsV_snoc]; rfl
            rw [← ett] at hs
            repeat (first | (refine MC.run1 tab 1000 rfl rfl (by first | exact True.intro | (simp only [Conds, rng, Int.toNat_natCast, List.length_append, bytesV_length] <;> omega) | (simp [Conds, rng] <;> omega) | (simp only [Conds, rng, wrap_u8, wrap_u16, wrap_u32, wrap_u64] <;> omega)) ?_) | (refine MC.la true (la_load1 hs rfl (by rfl)) rfl ?_) | (refine MC.part rfl rfl (fun h => absurd h (by first | decide | omega)) (fun _ => ?_)) | (refine MC.part rfl rfl (fun _ => ?_) (fun h => absurd (by first | decide | omega) h)) | (refine MC.cond rfl (fun h => absurd h (by first | decide | omega)) (fun _ => ?_)) | (refine MC.cond rfl (fun _ => ?_) (fun h => absurd (by first | decide | omega) h)))
            refine MC.does true (does_store1 hs rfl rfl rfl (by first | decide | (simp; done) | (simp; omega))) rfl ?_; intro _ w hs
            have hs : Sat (scn bx q (j + 2) :: strsS va' (tt ++ [slc q a j]) :: strsS vb ff :: natsS vc aa :: F) w := hs
            have hin := inner_all 47 (Nat.le_refl _) (MaxC.up hM : MaxC (strsS va' (tt ++ [slc q a j]) :: strsS vb ff :: natsS vc aa :: F)) (by omega) (show j + 2 ≤ q.length by omega) hs
            rw [hi] at hin
            have hin : Ret Try.prog 19 [ptr bx, int 0] w (innerP bx q (j + 2) (strsS va' (tt ++ [slc q a j]) :: strsS vb ff :: natsS vc aa :: F) (Q.ok m)) := hin
            repeat (first | (refine MC.run1 tab 1000 rfl rfl (by first | exact True.intro | (simp only [Conds, rng, Int.toNat_natCast, List.length_append, bytesV_length] <;> omega) | (simp [Conds, rng] <;> omega) | (simp only [Conds, rng, wrap_u8, wrap_u16, wrap_u32, wrap_u64] <;> omega)) ?_) | (refine MC.la true (la_load1 hs rfl (by rfl)) rfl ?_) | (refine MC.part rfl rfl (fun h => absurd h (by first | decide | omega)) (fun _ => ?_)) | (refine MC.part rfl rfl (fun _ => ?_) (fun h => absurd (by first | decide | omega) h)) | (refine MC.cond rfl (fun h => absurd h (by first | decide | omega)) (fun _ => ?_)) | (refine MC.cond rfl (fun _ => ?_) (fun h => absurd (by first | decide | omega) h)))
            refine MC.does true (does_call rfl (hin)) rfl ?_
            rintro _ w ⟨rfl, hs⟩
            have hsl2 : (q.take (((j + 2 + m : Nat) : Int) - 1).toNat).drop ((j + 2 : Nat) : Int).toNat = slc q (j + 2) (j + 2 + m - 1) := by
              have e : (((j + 2 + m : Nat) : Int) - 1).toNat = j + 2 + m - 1 := by omega
              rw [e]; rfl
            repeat (first | (refine MC.run1 tab 1000 rfl rfl (by first | exact True.intro | (simp only [Conds, rng, Int.toNat_natCast, List.length_append, bytesV_length] <;> omega) | (simp [Conds, rng] <;> omega) | (simp only [Conds, rng, wrap_u8, wrap_u16, wrap_u32, wrap_u64] <;> omega)) ?_) | (refine MC.la true (la_load1 hs rfl (by rfl)) rfl ?_) | (refine MC.part rfl rfl (fun h => absurd h (by first | decide | omega)) (fun _ => ?_)) | (refine MC.part rfl rfl (fun _ => ?_) (fun h => absurd (by first | decide | omega) h)) | (refine MC.cond rfl (fun h => absurd h (by first | decide | omega)) (fun _ => ?_)) | (refine MC.cond rfl (fun _ => ?_) (fun h => absurd (by first | decide | omega) h)))
            rw [hsl2]
            refine MC.does true (does_buildL hs rfl rfl rfl (by first | (intro u hu; simp only [List.mem_cons, List.not_mem_nil, or_false] at hu; rcases hu with rfl | rfl | rfl | rfl | rfl | rfl | rfl | rfl <;> rfl) | (intro u hu; simp only [List.mem_cons, List.not_mem_nil, or_false] at hu; rcases hu with rfl | rfl | rfl | rfl <;> rfl) | (intro u hu; simp only [List.mem_cons, List.not_mem_nil, or_false] at hu; rcases hu with rfl | rfl <;> rfl) | (intro u hu; simp only [List.mem_cons, List.not_mem_nil, or_false] at hu; subst hu; rfl)) rfl) rfl ?_; rintro _ w ⟨b2, rfl, hs⟩
            refine MC.does true (does_append hs rfl rfl (src_at rfl (one_str _)) (by omega) (by omega)) rfl ?_
            intro vb' w hs
            repeat (first | (refine MC.run1 tab 1000 rfl rfl (by first | exact True.intro | (simp only [Conds, rng, Int.toNat_natCast, List.length_append, bytesV_length] <;> omega) | (simp [Conds, rng] <;> omega) | (simp only [Conds, rng, wrap_u8, wrap_u16, wrap_u32, wrap_u64] <;> omega)) ?_) | (refine MC.la true (la_load1 hs rfl (by rfl)) rfl ?_) | (refine MC.part rfl rfl (fun h => absurd h (by first | decide | omega)) (fun _ => ?_)) | (refine MC.part rfl rfl (fun _ => ?_) (fun h => absurd (by first | decide | omega) h)) | (refine MC.cond rfl (fun h => absurd h (by first | decide | omega)) (fun _ => ?_)) | (refine MC.cond rfl (fun _ => ?_) (fun h => absurd (by first | decide | omega) h)))
            refine MC.does true (does_buildL hs rfl rfl rfl (by first | (intro u hu; simp only [List.mem_cons, List.not_mem_nil, or_false] at hu; rcases hu with rfl | rfl | rfl | rfl | rfl | rfl | rfl | rfl <;> rfl) | (intro u hu; simp only [List.mem_cons, List.not_mem_nil, or_false] at hu; rcases hu with rfl | rfl | rfl | rfl <;> rfl) | (intro u hu; simp only [List.mem_cons, List.not_mem_nil, or_false] at hu; rcases hu with rfl | rfl <;> rfl) | (intro u hu; simp only [List.mem_cons, List.not_mem_nil, or_false] at hu; subst hu; rfl)) rfl) rfl ?_; rintro _ w ⟨b3, rfl, hs⟩
            refine MC.does true (does_append hs rfl rfl (src_at rfl (by exact one_nat (j + 2))) (by omega) (by omega)) rfl ?_
            intro vc' w hs
            repeat (first | (refine MC.run1 tab 1000 rfl rfl (by first | exact True.intro | (simp only [Conds, rng, Int.toNat_natCast, List.length_append, bytesV_length] <;> omega) | (simp [Conds, rng] <;> omega) | (simp only [Conds, rng, wrap_u8, wrap_u16, wrap_u32, wrap_u64] <;> omega)) ?_) | (refine MC.la true (la_load1 hs rfl (by rfl)) rfl ?_) | (refine MC.part rfl rfl (fun h => absurd h (by first | decide | omega)) (fun _ => ?_)) | (refine MC.part rfl rfl (fun _ => ?_) (fun h => absurd (by first | decide | omega) h)) | (refine MC.cond rfl (fun h => absurd h (by first | decide | omega)) (fun _ => ?_)) | (refine MC.cond rfl (fun _ => ?_) (fun h => absurd (by first | decide | omega) h)))
            refine MC.again ((j + 2 + m, j + 2 + m), (tt ++ [slc q a j], ff ++ [slc q (j + 2) (j + 2 + m - 1)], aa ++ [j + 2]), (va', vb', vc')) (by repeat (first | exact trivial | refine ⟨rfl, ?_⟩))
              ⟨by show j + 2 + m < q.length; omega, Nat.le_refl _, by show 1 ≤ j + 2 + m; omega, hn, hgl, by show (tt ++ [slc q a j]).length ≤ j + 2 + m; rw [List.length_append]; simp; omega, by show (ff ++ [_]).length ≤ j + 2 + m; rw [List.length_append]; simp; omega, by show (aa ++ [_]).length ≤ j + 2 + m; rw [List.length_append]; simp; omega, ?_⟩ (by show q.length - (j + 2 + m) < q.length - j; omega)
            show Sat (scn bx q (j + 2 + m) :: strsS va' (tt ++ [slc q a j]) :: sl vb' _ 1 (ff ++ [slc q (j + 2) (j + 2 + m - 1)]).length (strsV (ff ++ [slc q (j + 2) (j + 2 + m - 1)])) :: sl vc' _ 1 (aa ++ [j + 2]).length (natsV (aa ++ [j + 2])) :: F) w
            rw [List.length_append, List.length_append, strsV_snoc, natsV_snoc]
            exact hs.tail.tail
        · have hnw : ¬ Whole q := fun h => by
            have := whole_scan h; rw [hsq] at this; injection this with this; injection this with this; injection this with _ this; injection this with this
            exact htl (by rw [this])
          have htl' : ¬ ((tx.length : Nat) : Int) = ((q.length : Nat) : Int) := by omega
          repeat (first | (refine MC.run1 tab 1000 rfl rfl (by first | exact True.intro | (simp only [Conds, rng, Int.toNat_natCast, List.length_append, bytesV_length] <;> omega) | (simp [Conds, rng] <;> omega) | (simp only [Conds, rng, wrap_u8, wrap_u16, wrap_u32, wrap_u64] <;> omega)) ?_) | (refine MC.la true (la_load1 hs rfl (by rfl)) rfl ?_) | (refine MC.part rfl rfl (fun h => absurd h (by first | decide | omega)) (fun _ => ?_)) | (refine MC.part rfl rfl (fun _ => ?_) (fun h => absurd (by first | decide | omega) h)) | (refine MC.cond rfl (fun h => absurd h (by first | decide | omega)) (fun _ => ?_)) | (refine MC.cond rfl (fun _ => ?_) (fun h => absurd (by first | decide | omega) h)))
          refine MC.does true (does_call rfl (hsc)) rfl ?_
          rintro _ w ⟨v1, rfl, hs⟩
          rcases hs.sl_cases with ⟨_, h0, _⟩ | ⟨q1, c1', sp1, rfl, _, _, _, hs⟩
          · exact absurd h0 (by simp)
          have hs : Sat (blk q1 ([int ((k : Nat) : Int), str tx, int ((p : Nat) : Int)] ++ sp1) 36 :: F) w := hs
          repeat (first | (refine MC.run1 tab 1000 rfl rfl (by first | exact True.intro | (simp only [Conds, rng, Int.toNat_natCast, List.length_append, bytesV_length] <;> omega) | (simp [Conds, rng] <;> omega) | (simp only [Conds, rng, wrap_u8, wrap_u16, wrap_u32, wrap_u64] <;> omega)) ?_) | (refine MC.la true (la_load1 hs rfl (by rfl)) rfl ?_) | (refine MC.part rfl rfl (fun h => absurd h (by first | decide | omega)) (fun _ => ?_)) | (refine MC.part rfl rfl (fun _ => ?_) (fun h => absurd (by first | decide | omega) h)) | (refine MC.cond rfl (fun h => absurd h (by first | decide | omega)) (fun _ => ?_)) | (refine MC.cond rfl (fun _ => ?_) (fun h => absurd (by first | decide | omega) h)))
          refine MC.ret rfl ?_
          exact .inr ⟨hnw, rfl, hs.tail⟩
      · have h5' : ¬ ((k : Nat) : Int) = 5 := by omega
        have hnw : ¬ Whole q := fun h => by
          have := whole_scan h; rw [hsq] at this; injection this with this; injection this with this; injection this with this
          exact h5 this
        repeat (first | (refine MC.run1 tab 1000 rfl rfl (by first | exact True.intro | (simp only [Conds, rng, Int.toNat_natCast, List.length_append, bytesV_length] <;> omega) | (simp [Conds, rng] <;> omega) | (simp only [Conds, rng, wrap_u8, wrap_u16, wrap_u32, wrap_u64] <;> omega)) ?_) | (refine MC.la true (la_load1 hs rfl (by rfl)) rfl ?_) | (refine MC.part rfl rfl (fun h => absurd h (by first | decide | omega)) (fun _ => ?_)) | (refine MC.part rfl rfl (fun _ => ?_) (fun h => absurd (by first | decide | omega) h)) | (refine MC.cond rfl (fun h => absurd h (by first | decide | omega)) (fun _ => ?_)) | (refine MC.cond rfl (fun _ => ?_) (fun h => absurd (by first | decide | omega) h)))
        refine MC.does true (does_call rfl (hsc)) rfl ?_
        rintro _ w ⟨v1, rfl, hs⟩
        rcases hs.sl_cases with ⟨_, h0, _⟩ | ⟨q1, c1', sp1, rfl, _, _, _, hs⟩
        · exact absurd h0 (by simp)
        have hs : Sat (blk q1 ([int ((k : Nat) : Int), str tx, int ((p : Nat) : Int)] ++ sp1) 36 :: F) w := hs
        repeat (first | (refine MC.run1 tab 1000 rfl rfl (by first | exact True.intro | (simp only [Conds, rng, Int.toNat_natCast, List.length_append, bytesV_length] <;> omega) | (simp [Conds, rng] <;> omega) | (simp only [Conds, rng, wrap_u8, wrap_u16, wrap_u32, wrap_u64] <;> omega)) ?_) | (refine MC.la true (la_load1 hs rfl (by rfl)) rfl ?_) | (refine MC.part rfl rfl (fun h => absurd h (by first | decide | omega)) (fun _ => ?_)) | (refine MC.part rfl rfl (fun _ => ?_) (fun h => absurd (by first | decide | omega) h)) | (refine MC.cond rfl (fun h => absurd h (by first | decide | omega)) (fun _ => ?_)) | (refine MC.cond rfl (fun _ => ?_) (fun h => absurd (by first | decide | omega) h)))
        refine MC.ret rfl ?_
        exact .inr ⟨hnw, rfl, hs.tail⟩
    · have hnw : ¬ Whole q := fun h => by
        have := whole_scan h; rw [hsq] at this; injection this with this; rw [this] at h1; exact h1 rfl
      have h1' : ¬ ((l.length : Nat) : Int) = 1 := by omega
      repeat (first | (refine MC.run1 tab 1000 rfl rfl (by first | exact True.intro | (simp only [Conds, rng, Int.toNat_natCast, List.length_append, bytesV_length] <;> omega) | (simp [Conds, rng] <;> omega) | (simp only [Conds, rng, wrap_u8, wrap_u16, wrap_u32, wrap_u64] <;> omega)) ?_) | (refine MC.la true (la_load1 hs rfl (by rfl)) rfl ?_) | (refine MC.part rfl rfl (fun h => absurd h (by first | decide | omega)) (fun _ => ?_)) | (refine MC.part rfl rfl (fun _ => ?_) (fun h => absurd (by first | decide | omega) h)) | (refine MC.cond rfl (fun h => absurd h (by first | decide | omega)) (fun _ => ?_)) | (refine MC.cond rfl (fun _ => ?_) (fun h => absurd (by first | decide | omega) h)))
      refine MC.does true (does_call rfl (hsc)) rfl ?_
      rintro _ w ⟨v1, rfl, hs⟩
      obtain ⟨_, q1, c1, rfl, _⟩ := hs.sl_len
      repeat (first | (refine MC.run1 tab 1000 rfl rfl (by first | exact True.intro | (simp only [Conds, rng, Int.toNat_natCast, List.length_append, bytesV_length] <;> omega) | (simp [Conds, rng] <;> omega) | (simp only [Conds, rng, wrap_u8, wrap_u16, wrap_u32, wrap_u64] <;> omega)) ?_) | (refine MC.la true (la_load1 hs rfl (by rfl)) rfl ?_) | (refine MC.part rfl rfl (fun h => absurd h (by first | decide | omega)) (fun _ => ?_)) | (refine MC.part rfl rfl (fun _ => ?_) (fun h => absurd (by first | decide | omega) h)) | (refine MC.cond rfl (fun h => absurd h (by first | decide | omega)) (fun _ => ?_)) | (refine MC.cond rfl (fun _ => ?_) (fun h => absurd (by first | decide | omega) h)))
      refine MC.ret rfl ?_
      exact .inr ⟨hnw, rfl, hs.tail⟩
end Go.Proofs.Ytcahpllliflloaa
