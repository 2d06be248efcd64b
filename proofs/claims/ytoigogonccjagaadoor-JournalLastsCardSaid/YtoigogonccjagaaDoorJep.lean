/- Journals: the law of epochs. -/
import Derived.Test.YtoigogonccjagaaDoorJgr
set_option linter.unusedVariables false
set_option linter.unusedSimpArgs false
namespace Go.Jn
theorem parse_full {e : Nat} (he1 : 1 ≤ e) (he : e < 4294967296) {l : List Bs} {z : Nat} (hl : ∀ b ∈ l, b.length < 65536) (hn : 1 + l.length < 4294967296) : parseR e 1 (recsB e 1 l ++ List.replicate z 0) = l := parse_recs he l 1 hl hn (stops_zeros he1)
theorem parse_alien {e e' : Nat} (he1 : 1 ≤ e') (he : e < 4294967296) (hne : e ≠ e') {l : List Bs} {z : Nat} (hl : ∀ b ∈ l, b.length < 65536) : parseR e' 1 (recsB e 1 l ++ List.replicate z 0) = [] := by
  cases l with
  | nil => show parseR e' 1 ([] ++ _) = []; rw [List.nil_append]; exact parseR_stop (stops_zeros he1)
  | cons b l => exact parse_other he hne l _ (hl b List.mem_cons_self)
theorem front_full {e : Nat} (he : e < 4294967296) {l : List Bs} {z : Nat} (hl : ∀ b ∈ l, b.length < 65536) (h0 : l ≠ []) : frontB (recsB e 1 l ++ List.replicate z 0) = e := by
  cases l with
  | nil => exact absurd rfl h0
  | cons b l => exact front_recs he l _ (hl b List.mem_cons_self)
end Go.Jn
namespace Go.Proofs.YtoigogonccjagaaDoor
open Go Go.Sl Go.Jn Go.ChangeShapes Go.WideShapes
attribute [local irreducible] LooksAt sumB sumF recsB parseR frontB

/-- A journal that was opened again. -/
theorem jopened_spec {F : List Assn} {p E E' : Nat} {D : Dev} {l : List Bs} {w : World} (hs : Sat (dev p D :: F) w) (hD : Dok D) (hl : lies D (recsB E 1 l)) (hB : szB l ≤ 1536) (he1 : 1 ≤ E') (he2 : E' ≤ 2147483647) (hE : E ≤ 2147483647) :
    Ret Tryd.prog 15 [ptr p, int ((1 : Nat) : Int), int ((6 : Nat) : Int), int ((E' : Nat) : Int)] w fun v w' => ∃ (r : Nat) (vX vR vAll : Value) (recs : List (Value × Bs)) (used front : Nat) (A : Assn) (D' : Dev), v = .tuple #[ptr r, int 0] ∧ (E = E' → recs.map (·.2) = l) ∧ (E ≠ E' → recs = []) ∧ (E' = E → l ≠ [] → front = E) ∧ recs.length ≤ 1000000 ∧
      (∀ x ∈ recs, RdS (A :: F) 1 x.1 x.2.length (bytesV x.2) ∧ x.2.length ≤ 1000000) ∧ Dok D' ∧ lies D' (recsB E 1 l) ∧
      Sat (dev p D' :: ojb r p 1 6 E' vX vR used front :: sl vR 22 1 recs.length (hd recs) :: A :: F) w' := by
  have hlen : (recsB E 1 l).length = szB l := recsB_sz E 1 l
  have hb : ∀ b ∈ l, b.length < 65536 := fun b h => by have := szB_mem h; omega
  have hn := szB_few l
  refine (jopen_spec (E := E') hs hD hl (by omega) he1 he2).mono ?_
  rintro v w ⟨r, vX, vR, vAll, recs, used, D', rfl, h1, h2, h3, h4, h5, hs⟩
  refine ⟨r, vX, vR, vAll, recs, used, _, _, D', rfl, fun h => ?_, fun h => ?_, fun h h0 => ?_, h2, h3, h4, h5, hs⟩
  · subst h; rw [h1]; exact parse_full he1 (by omega) hb (by omega)
  · have : parseR E' 1 (full (recsB E 1 l)) = [] := parse_alien he1 (by omega) h hb
    rw [this] at h1; exact List.map_eq_nil_iff.1 h1
  · exact front_full (by omega) hb h0
theorem bodies_ok {F : List Assn} {bodies : List BdR} (hok : ∀ y ∈ bodies, y.ok F) (i : Nat) (h : i < bodies.length) : ∃ (q : Option Addr) (c : Nat) (l : Bs), (bodies.flatMap BdR.row)[((i : Nat) : Int).toNat * 1]? = some (.slice q l.length c) ∧ RdS F 1 (.slice q l.length c) l.length (bytesV l) ∧ l.length ≤ 9223372036854775807 ∧ l.length ≤ c := by
  have hyat := rows1_get BdR.row (fun y => .slice y.q y.l.length y.c) (fun _ => rfl) bodies i h
  have hy := hok _ (List.getElem_mem h)
  refine ⟨_, _, _, hyat, hy.h, hy.few, ?_⟩
  obtain ⟨_, _, e, h, _⟩ := hy.h.shape
  injection e with _ _ e; omega
set_option maxHeartbeats 8000000 in
theorem epochs_walk {F : List Assn} {w : World} {vo vn vk : Value} {olds news : List BdR} {kept : List Bool} {torn a' : Int} (hs : Sat F w) (ho : RdS F 1 vo olds.length (olds.flatMap BdR.row)) (hoo : ∀ y ∈ olds, y.ok F) (hw : RdS F 1 vn news.length (news.flatMap BdR.row)) (hwo : ∀ y ∈ news, y.ok F) (hk : RdS F 1 vk kept.length (boolsV kept))
    (hf1 : olds.length ≤ 9223372036854775807) (hf2 : news.length ≤ 9223372036854775807) :
    Ret Tryd.prog 6 [vo, vn, vk, int torn, int a'] w fun v w' => v = bool true ∧ Sat F w' := by
  obtain ⟨qo, co, rfl, hco, _⟩ := ho.shape
  obtain ⟨qn, cn, rfl, hcn, _⟩ := hw.shape
  obtain ⟨qk, ck, rfl, hck, _⟩ := hk.shape
  have hwk := works_spec hs
  refine Ret.enter [(true, .slice qo olds.length co), (true, .slice qn news.length cn), (true, .slice qk kept.length ck), (true, int torn), (true, int a')] _ Tryd.func6 rfl Tryd.ntmps6 rfl ?_
  repeat (first | (refine MC.run1 tab 1000 rfl rfl (by first | exact True.intro | (simp only [Conds, rng, Int.toNat_natCast, List.length_append, bytesV_length] <;> omega) | (simp [Conds, rng] <;> omega) | (simp only [Conds, rng, wrap_u8, wrap_u16, wrap_u32, wrap_u64] <;> omega)) ?_) | (refine MC.la true (la_load1 hs rfl (by rfl)) rfl ?_) | (refine MC.part rfl rfl (fun h => absurd h (by first | decide | omega)) (fun _ => ?_)) | (refine MC.part rfl rfl (fun _ => ?_) (fun h => absurd (by first | decide | omega) h)) | (refine MC.cond rfl (fun h => absurd h (by first | decide | omega)) (fun _ => ?_)) | (refine MC.cond rfl (fun _ => ?_) (fun h => absurd (by first | decide | omega) h)))
  refine MC.does true (does_call rfl (hwk)) rfl ?_
  rintro _ w ⟨rfl, hs⟩
  have hbg := began_spec hs
  repeat (first | (refine MC.run1 tab 1000 rfl rfl (by first | exact True.intro | (simp only [Conds, rng, Int.toNat_natCast, List.length_append, bytesV_length] <;> omega) | (simp [Conds, rng] <;> omega) | (simp only [Conds, rng, wrap_u8, wrap_u16, wrap_u32, wrap_u64] <;> omega)) ?_) | (refine MC.la true (la_load1 hs rfl (by rfl)) rfl ?_) | (refine MC.part rfl rfl (fun h => absurd h (by first | decide | omega)) (fun _ => ?_)) | (refine MC.part rfl rfl (fun _ => ?_) (fun h => absurd (by first | decide | omega) h)) | (refine MC.cond rfl (fun h => absurd h (by first | decide | omega)) (fun _ => ?_)) | (refine MC.cond rfl (fun _ => ?_) (fun h => absurd (by first | decide | omega) h)))
  refine MC.does true (does_call rfl (hbg)) rfl ?_
  rintro _ w ⟨p, r, D, rfl, hD, hl, hs⟩
  refine MC.run1 tab 15 rfl rfl (by first | exact True.intro | (simp only [Conds, rng, Int.toNat_natCast, List.length_append, bytesV_length] <;> omega) | (simp [Conds, rng] <;> omega) | (simp only [Conds, rng, wrap_u8, wrap_u16, wrap_u32, wrap_u64] <;> omega)) ?_
  refine MC.cut1S (σ := List Bs) (fun A => [(0, true, .slice qo olds.length co), (1, true, .slice qn news.length cn), (2, true, .slice qk kept.length ck), (3, true, int torn), (4, true, int a'), (11, true, ptr p), (12, true, ptr r)]) (fun A w => Sat (dev p D :: jk r p 2 [] A :: F) w) rfl ?_ ?_
  rotate_left
  · repeat (first | (refine MC.run1 tab 1000 rfl rfl (by first | exact True.intro | (simp only [Conds, rng, Int.toNat_natCast, List.length_append, bytesV_length] <;> omega) | (simp [Conds, rng] <;> omega) | (simp only [Conds, rng, wrap_u8, wrap_u16, wrap_u32, wrap_u64] <;> omega)) ?_) | (refine MC.la true (la_load1 hs rfl (by rfl)) rfl ?_) | (refine MC.part rfl rfl (fun h => absurd h (by first | decide | omega)) (fun _ => ?_)) | (refine MC.part rfl rfl (fun _ => ?_) (fun h => absurd (by first | decide | omega) h)) | (refine MC.cond rfl (fun h => absurd h (by first | decide | omega)) (fun _ => ?_)) | (refine MC.cond rfl (fun _ => ?_) (fun h => absurd (by first | decide | omega) h)))
    refine MC.loop (σ := Nat × List Bs) (fun x => [(0, true, .slice qo olds.length co), (1, true, .slice qn news.length cn), (2, true, .slice qk kept.length ck), (3, true, int torn), (4, true, int a'), (11, true, ptr p), (12, true, ptr r), (13, true, int ((x.1 : Nat) : Int))]) (fun x w => x.1 ≤ olds.length ∧ Sat (dev p D :: jk r p 2 [] x.2 :: F) w) (fun x => olds.length - x.1) (0, []) (by repeat (first | exact trivial | refine ⟨rfl, ?_⟩)) ⟨Nat.zero_le _, hs⟩ ?_
    rintro ⟨i, A⟩ w hx
    clear hs
    replace hx : i ≤ olds.length ∧ Sat (dev p D :: jk r p 2 [] A :: F) w := hx
    obtain ⟨hi, hs⟩ := hx
    dsimp only []
    rcases Nat.lt_or_ge i olds.length with hlt | hge
    rotate_left
    · repeat (first | (refine MC.run1 tab 1000 rfl rfl (by first | exact True.intro | (simp only [Conds, rng, Int.toNat_natCast, List.length_append, bytesV_length] <;> omega) | (simp [Conds, rng] <;> omega) | (simp only [Conds, rng, wrap_u8, wrap_u16, wrap_u32, wrap_u64] <;> omega)) ?_) | (refine MC.la true (la_load1 hs rfl (by rfl)) rfl ?_) | (refine MC.part rfl rfl (fun h => absurd h (by first | decide | omega)) (fun _ => ?_)) | (refine MC.part rfl rfl (fun _ => ?_) (fun h => absurd (by first | decide | omega) h)) | (refine MC.cond rfl (fun h => absurd h (by first | decide | omega)) (fun _ => ?_)) | (refine MC.cond rfl (fun _ => ?_) (fun h => absurd (by first | decide | omega) h)))
      exact MC.meetS A (by repeat (first | exact trivial | refine ⟨rfl, ?_⟩)) hs
    rcases Nat.lt_or_ge i 12 with h12 | h12
    rotate_left
    · repeat (first | (refine MC.run1 tab 1000 rfl rfl (by first | exact True.intro | (simp only [Conds, rng, Int.toNat_natCast, List.length_append, bytesV_length] <;> omega) | (simp [Conds, rng] <;> omega) | (simp only [Conds, rng, wrap_u8, wrap_u16, wrap_u32, wrap_u64] <;> omega)) ?_) | (refine MC.la true (la_load1 hs rfl (by rfl)) rfl ?_) | (refine MC.part rfl rfl (fun h => absurd h (by first | decide | omega)) (fun _ => ?_)) | (refine MC.part rfl rfl (fun _ => ?_) (fun h => absurd (by first | decide | omega) h)) | (refine MC.cond rfl (fun h => absurd h (by first | decide | omega)) (fun _ => ?_)) | (refine MC.cond rfl (fun _ => ?_) (fun h => absurd (by first | decide | omega) h)))
      exact MC.meetS A (by repeat (first | exact trivial | refine ⟨rfl, ?_⟩)) hs
    obtain ⟨bl, ol, rfl, hrl⟩ := ho.at_ (by omega)
    obtain ⟨qy, cy, b, hyat, hbr, hbf, hbc⟩ := bodies_ok hoo i hlt
    have hs := hs.swap
    have hja := jadd_spec hs (RdS.up hbr) hbf
    obtain ⟨en, hen⟩ : ∃ en, addN (szB ([] ++ A)) b = en := ⟨_, rfl⟩
    obtain ⟨A2, hA2⟩ : ∃ A2, (if szB ([] ++ A) + (14 + b.length) ≤ 1536 then A ++ [b] else A) = A2 := ⟨_, rfl⟩
    rw [hen, hA2] at hja
    repeat (first | (refine MC.run1 tab 1000 rfl rfl (by first | exact True.intro | (simp only [Conds, rng, Int.toNat_natCast, List.length_append, bytesV_length] <;> omega) | (simp [Conds, rng] <;> omega) | (simp only [Conds, rng, wrap_u8, wrap_u16, wrap_u32, wrap_u64] <;> omega)) ?_) | (refine MC.la true (la_load1 hs rfl (by rfl)) rfl ?_) | (refine MC.part rfl rfl (fun h => absurd h (by first | decide | omega)) (fun _ => ?_)) | (refine MC.part rfl rfl (fun _ => ?_) (fun h => absurd (by first | decide | omega) h)) | (refine MC.cond rfl (fun h => absurd h (by first | decide | omega)) (fun _ => ?_)) | (refine MC.cond rfl (fun _ => ?_) (fun h => absurd (by first | decide | omega) h)))
    refine MC.la true (la_load1_rd hrl hs (j := ((i : Nat) : Int).toNat * 1) rfl hyat) rfl ?_
    repeat (first | (refine MC.run1 tab 1000 rfl rfl (by first | exact True.intro | (simp only [Conds, rng, Int.toNat_natCast, List.length_append, bytesV_length] <;> omega) | (simp [Conds, rng] <;> omega) | (simp only [Conds, rng, wrap_u8, wrap_u16, wrap_u32, wrap_u64] <;> omega)) ?_) | (refine MC.la true (la_load1 hs rfl (by rfl)) rfl ?_) | (refine MC.part rfl rfl (fun h => absurd h (by first | decide | omega)) (fun _ => ?_)) | (refine MC.part rfl rfl (fun _ => ?_) (fun h => absurd (by first | decide | omega) h)) | (refine MC.cond rfl (fun h => absurd h (by first | decide | omega)) (fun _ => ?_)) | (refine MC.cond rfl (fun _ => ?_) (fun h => absurd (by first | decide | omega) h)))
    refine MC.does true (does_call rfl (hja)) rfl ?_
    rintro _ w ⟨rfl, hs⟩
    repeat (first | (refine MC.run1 tab 1000 rfl rfl (by first | exact True.intro | (simp only [Conds, rng, Int.toNat_natCast, List.length_append, bytesV_length] <;> omega) | (simp [Conds, rng] <;> omega) | (simp only [Conds, rng, wrap_u8, wrap_u16, wrap_u32, wrap_u64] <;> omega)) ?_) | (refine MC.la true (la_load1 hs rfl (by rfl)) rfl ?_) | (refine MC.part rfl rfl (fun h => absurd h (by first | decide | omega)) (fun _ => ?_)) | (refine MC.part rfl rfl (fun _ => ?_) (fun h => absurd (by first | decide | omega) h)) | (refine MC.cond rfl (fun h => absurd h (by first | decide | omega)) (fun _ => ?_)) | (refine MC.cond rfl (fun _ => ?_) (fun h => absurd (by first | decide | omega) h)))
    exact MC.again (i + 1, A2) (by repeat (first | exact trivial | refine ⟨rfl, ?_⟩)) ⟨hlt, hs.swap⟩ (by show olds.length - (i + 1) < olds.length - i; omega)
  intro A w hs
  have hs : Sat (dev p D :: jk r p 2 [] A :: F) w := hs
  have hjc := jcommit_spec hs hD (by unfold recsB; exact hl)
  repeat (first | (refine MC.run1 tab 1000 rfl rfl (by first | exact True.intro | (simp only [Conds, rng, Int.toNat_natCast, List.length_append, bytesV_length] <;> omega) | (simp [Conds, rng] <;> omega) | (simp only [Conds, rng, wrap_u8, wrap_u16, wrap_u32, wrap_u64] <;> omega)) ?_) | (refine MC.la true (la_load1 hs rfl (by rfl)) rfl ?_) | (refine MC.part rfl rfl (fun h => absurd h (by first | decide | omega)) (fun _ => ?_)) | (refine MC.part rfl rfl (fun _ => ?_) (fun h => absurd (by first | decide | omega) h)) | (refine MC.cond rfl (fun h => absurd h (by first | decide | omega)) (fun _ => ?_)) | (refine MC.cond rfl (fun _ => ?_) (fun h => absurd (by first | decide | omega) h)))
  refine MC.does true (does_call rfl (hjc)) rfl ?_
  rintro _ w ⟨rfl, D1, hD1, hl1, hs⟩
  rw [List.nil_append] at hs
  clear hD hl hl1
  have hra := jreset_arg (e := 2) hs.swap (Nat.le_refl _)
  repeat (first | (refine MC.run1 tab 1000 rfl rfl (by first | exact True.intro | (simp only [Conds, rng, Int.toNat_natCast, List.length_append, bytesV_length] <;> omega) | (simp [Conds, rng] <;> omega) | (simp only [Conds, rng, wrap_u8, wrap_u16, wrap_u32, wrap_u64] <;> omega)) ?_) | (refine MC.la true (la_load1 hs rfl (by rfl)) rfl ?_) | (refine MC.part rfl rfl (fun h => absurd h (by first | decide | omega)) (fun _ => ?_)) | (refine MC.part rfl rfl (fun _ => ?_) (fun h => absurd (by first | decide | omega) h)) | (refine MC.cond rfl (fun h => absurd h (by first | decide | omega)) (fun _ => ?_)) | (refine MC.cond rfl (fun _ => ?_) (fun h => absurd (by first | decide | omega) h)))
  refine MC.does true (does_call rfl (hra)) rfl ?_
  rintro _ w ⟨rfl, rfl⟩
  have hre := jreset_spec (e := 3) hs hD1 (by decide) (by decide)
  repeat (first | (refine MC.run1 tab 1000 rfl rfl (by first | exact True.intro | (simp only [Conds, rng, Int.toNat_natCast, List.length_append, bytesV_length] <;> omega) | (simp [Conds, rng] <;> omega) | (simp only [Conds, rng, wrap_u8, wrap_u16, wrap_u32, wrap_u64] <;> omega)) ?_) | (refine MC.la true (la_load1 hs rfl (by rfl)) rfl ?_) | (refine MC.part rfl rfl (fun h => absurd h (by first | decide | omega)) (fun _ => ?_)) | (refine MC.part rfl rfl (fun _ => ?_) (fun h => absurd (by first | decide | omega) h)) | (refine MC.cond rfl (fun h => absurd h (by first | decide | omega)) (fun _ => ?_)) | (refine MC.cond rfl (fun _ => ?_) (fun h => absurd (by first | decide | omega) h)))
  refine MC.does true (does_call rfl (hre)) rfl ?_
  rintro _ w ⟨rfl, D2, hD2, hl2, hs⟩
  have hjr := jrecords_spec hs.swap
  repeat (first | (refine MC.run1 tab 1000 rfl rfl (by first | exact True.intro | (simp only [Conds, rng, Int.toNat_natCast, List.length_append, bytesV_length] <;> omega) | (simp [Conds, rng] <;> omega) | (simp only [Conds, rng, wrap_u8, wrap_u16, wrap_u32, wrap_u64] <;> omega)) ?_) | (refine MC.la true (la_load1 hs rfl (by rfl)) rfl ?_) | (refine MC.part rfl rfl (fun h => absurd h (by first | decide | omega)) (fun _ => ?_)) | (refine MC.part rfl rfl (fun _ => ?_) (fun h => absurd (by first | decide | omega) h)) | (refine MC.cond rfl (fun h => absurd h (by first | decide | omega)) (fun _ => ?_)) | (refine MC.cond rfl (fun _ => ?_) (fun h => absurd (by first | decide | omega) h)))
  refine MC.does true (does_call rfl (hjr)) rfl ?_
  rintro vr w ⟨out, hout, hs⟩
  obtain ⟨-, qr, cr, rfl, -⟩ := hs.sl_len
  obtain rfl : out = [] := List.map_eq_nil_iff.1 hout
  have hs : Sat (jk r p 3 [] [] :: dev p D2 :: F) w := hs.tail.tail
  have hju := jused_spec hs
  rw [szB_nil] at hju
  repeat (first | (refine MC.run1 tab 1000 rfl rfl (by first | exact True.intro | (simp only [Conds, rng, Int.toNat_natCast, List.length_append, bytesV_length] <;> omega) | (simp [Conds, rng] <;> omega) | (simp only [Conds, rng, wrap_u8, wrap_u16, wrap_u32, wrap_u64] <;> omega)) ?_) | (refine MC.la true (la_load1 hs rfl (by rfl)) rfl ?_) | (refine MC.part rfl rfl (fun h => absurd h (by first | decide | omega)) (fun _ => ?_)) | (refine MC.part rfl rfl (fun _ => ?_) (fun h => absurd (by first | decide | omega) h)) | (refine MC.cond rfl (fun h => absurd h (by first | decide | omega)) (fun _ => ?_)) | (refine MC.cond rfl (fun _ => ?_) (fun h => absurd (by first | decide | omega) h)))
  refine MC.does true (does_call rfl (hju)) rfl ?_
  rintro _ w ⟨rfl, rfl⟩
  have hs : Sat (dev p D2 :: jk r p 3 [] (bd []) :: sl (.slice none 0 0) 22 1 ([] : List (Value × Bs)).length (hd []) :: F) w := (hs.sl_nil 22 1).pickF 3 [2, 1, 0] rfl rfl
  refine MC.run1 tab 8 rfl rfl (by first | exact True.intro | (simp only [Conds, rng, Int.toNat_natCast, List.length_append, bytesV_length] <;> omega) | (simp [Conds, rng] <;> omega) | (simp only [Conds, rng, wrap_u8, wrap_u16, wrap_u32, wrap_u64] <;> omega)) ?_
  refine MC.cond rfl (fun h => absurd h (by first | decide | omega)) (fun _ => ?_)
  refine MC.run1 tab 6 rfl rfl (by first | exact True.intro | (simp only [Conds, rng, Int.toNat_natCast, List.length_append, bytesV_length] <;> omega) | (simp [Conds, rng] <;> omega) | (simp only [Conds, rng, wrap_u8, wrap_u16, wrap_u32, wrap_u64] <;> omega)) ?_
  refine MC.cut1S (σ := List (Value × Bs) × Value) (fun x => [(2, true, .slice qk kept.length ck), (3, true, int torn), (4, true, int a'), (11, true, ptr p), (12, true, ptr r), (14, true, x.2)]) (fun x w => (∀ y ∈ x.1, RdS F 1 y.1 y.2.length (bytesV y.2)) ∧ szB (bd x.1) ≤ 1536 ∧ Sat (dev p D2 :: jk r p 3 [] (bd x.1) :: sl x.2 22 1 x.1.length (hd x.1) :: F) w) rfl ?_ ?_
  rotate_left
  · repeat (first | (refine MC.run1 tab 1000 rfl rfl (by first | exact True.intro | (simp only [Conds, rng, Int.toNat_natCast, List.length_append, bytesV_length] <;> omega) | (simp [Conds, rng] <;> omega) | (simp only [Conds, rng, wrap_u8, wrap_u16, wrap_u32, wrap_u64] <;> omega)) ?_) | (refine MC.la true (la_load1 hs rfl (by rfl)) rfl ?_) | (refine MC.part rfl rfl (fun h => absurd h (by first | decide | omega)) (fun _ => ?_)) | (refine MC.part rfl rfl (fun _ => ?_) (fun h => absurd (by first | decide | omega) h)) | (refine MC.cond rfl (fun h => absurd h (by first | decide | omega)) (fun _ => ?_)) | (refine MC.cond rfl (fun _ => ?_) (fun h => absurd (by first | decide | omega) h)))
    refine MC.loop (σ := Nat × List (Value × Bs) × Value) (fun x => [(1, true, .slice qn news.length cn), (2, true, .slice qk kept.length ck), (3, true, int torn), (4, true, int a'), (11, true, ptr p), (12, true, ptr r), (14, true, x.2.2), (15, true, int ((x.1 : Nat) : Int))])
      (fun x w => x.1 ≤ news.length ∧ (∀ y ∈ x.2.1, RdS F 1 y.1 y.2.length (bytesV y.2)) ∧ szB (bd x.2.1) ≤ 1536 ∧ Sat (dev p D2 :: jk r p 3 [] (bd x.2.1) :: sl x.2.2 22 1 x.2.1.length (hd x.2.1) :: F) w) (fun x => news.length - x.1) (0, [], .slice none 0 0) (by repeat (first | exact trivial | refine ⟨rfl, ?_⟩)) ⟨Nat.zero_le _, fun y hy => absurd hy (by simp), by decide, hs⟩ ?_
    rintro ⟨i, add, va⟩ w hx
    clear hs
    replace hx : i ≤ news.length ∧ (∀ y ∈ add, RdS F 1 y.1 y.2.length (bytesV y.2)) ∧ szB (bd add) ≤ 1536 ∧ Sat (dev p D2 :: jk r p 3 [] (bd add) :: sl va 22 1 add.length (hd add) :: F) w := hx
    obtain ⟨hi, hrd, hsz, hs⟩ := hx
    obtain ⟨-, qa, ca, rfl, -⟩ := (hs.pull 2 rfl).sl_len
    dsimp only []
    have hn1 := szB_few (bd add)
    rw [bd_length] at hn1
    rcases Nat.lt_or_ge i news.length with hlt | hge
    rotate_left
    · repeat (first | (refine MC.run1 tab 1000 rfl rfl (by first | exact True.intro | (simp only [Conds, rng, Int.toNat_natCast, List.length_append, bytesV_length] <;> omega) | (simp [Conds, rng] <;> omega) | (simp only [Conds, rng, wrap_u8, wrap_u16, wrap_u32, wrap_u64] <;> omega)) ?_) | (refine MC.la true (la_load1 hs rfl (by rfl)) rfl ?_) | (refine MC.part rfl rfl (fun h => absurd h (by first | decide | omega)) (fun _ => ?_)) | (refine MC.part rfl rfl (fun _ => ?_) (fun h => absurd (by first | decide | omega) h)) | (refine MC.cond rfl (fun h => absurd h (by first | decide | omega)) (fun _ => ?_)) | (refine MC.cond rfl (fun _ => ?_) (fun h => absurd (by first | decide | omega) h)))
      exact MC.meetS (add, .slice qa add.length ca) (by repeat (first | exact trivial | refine ⟨rfl, ?_⟩)) ⟨hrd, hsz, hs⟩
    rcases Nat.lt_or_ge i 12 with h12 | h12
    rotate_left
    · repeat (first | (refine MC.run1 tab 1000 rfl rfl (by first | exact True.intro | (simp only [Conds, rng, Int.toNat_natCast, List.length_append, bytesV_length] <;> omega) | (simp [Conds, rng] <;> omega) | (simp only [Conds, rng, wrap_u8, wrap_u16, wrap_u32, wrap_u64] <;> omega)) ?_) | (refine MC.la true (la_load1 hs rfl (by rfl)) rfl ?_) | (refine MC.part rfl rfl (fun h => absurd h (by first | decide | omega)) (fun _ => ?_)) | (refine MC.part rfl rfl (fun _ => ?_) (fun h => absurd (by first | decide | omega) h)) | (refine MC.cond rfl (fun h => absurd h (by first | decide | omega)) (fun _ => ?_)) | (refine MC.cond rfl (fun _ => ?_) (fun h => absurd (by first | decide | omega) h)))
      exact MC.meetS (add, .slice qa add.length ca) (by repeat (first | exact trivial | refine ⟨rfl, ?_⟩)) ⟨hrd, hsz, hs⟩
    obtain ⟨bl, ol, rfl, hrl⟩ := hw.at_ (by omega)
    obtain ⟨qy, cy, ly, hyat, hyr, hyf, hcy⟩ := bodies_ok hwo i hlt
    obtain ⟨N, hN⟩ : ∃ N, min ly.length 150 = N := ⟨_, rfl⟩
    have hbr := hyr.subHi (b := N) (by omega)
    obtain ⟨b, hbb⟩ : ∃ b, ly.take N = b := ⟨_, rfl⟩
    have hbl : b.length = N := by rw [← hbb, List.length_take]; omega
    rw [hbb] at hbr
    have hN3 : N ≤ 150 := by omega
    repeat (first | (refine MC.run1 tab 1000 rfl rfl (by first | exact True.intro | (simp only [Conds, rng, Int.toNat_natCast, List.length_append, bytesV_length] <;> omega) | (simp [Conds, rng] <;> omega) | (simp only [Conds, rng, wrap_u8, wrap_u16, wrap_u32, wrap_u64] <;> omega)) ?_) | (refine MC.la true (la_load1 hs rfl (by rfl)) rfl ?_) | (refine MC.part rfl rfl (fun h => absurd h (by first | decide | omega)) (fun _ => ?_)) | (refine MC.part rfl rfl (fun _ => ?_) (fun h => absurd (by first | decide | omega) h)) | (refine MC.cond rfl (fun h => absurd h (by first | decide | omega)) (fun _ => ?_)) | (refine MC.cond rfl (fun _ => ?_) (fun h => absurd (by first | decide | omega) h)))
    refine MC.la true (la_load1_rd hrl hs (j := ((i : Nat) : Int).toNat * 1) rfl hyat) rfl ?_
    repeat (first | (refine MC.run1 tab 1000 rfl rfl (by first | exact True.intro | (simp only [Conds, rng, Int.toNat_natCast, List.length_append, bytesV_length] <;> omega) | (simp [Conds, rng] <;> omega) | (simp only [Conds, rng, wrap_u8, wrap_u16, wrap_u32, wrap_u64] <;> omega)) ?_) | (refine MC.la true (la_load1 hs rfl (by rfl)) rfl ?_) | (refine MC.part rfl rfl (fun h => absurd h (by first | decide | omega)) (fun _ => ?_)) | (refine MC.part rfl rfl (fun _ => ?_) (fun h => absurd (by first | decide | omega) h)) | (refine MC.cond rfl (fun h => absurd h (by first | decide | omega)) (fun _ => ?_)) | (refine MC.cond rfl (fun _ => ?_) (fun h => absurd (by first | decide | omega) h)))
    refine MC.cut1 [(1, true, .slice (some ⟨bl, ol, none⟩) news.length cn), (2, true, .slice qk kept.length ck), (3, true, int torn), (4, true, int a'), (11, true, ptr p), (12, true, ptr r), (14, true, .slice qa add.length ca), (15, true, int ((i : Nat) : Int)), (16, true, .slice qy N cy)] (fun w => Sat (dev p D2 :: jk r p 3 [] (bd add) :: sl (.slice qa add.length ca) 22 1 add.length (hd add) :: F) w) rfl (fun w hs => ?_) ?_
    rotate_left
    · rcases Nat.lt_or_ge 150 ly.length with h | h
      · have e : N = 150 := by omega
        subst e
        repeat (first | (refine MC.run1 tab 1000 rfl rfl (by first | exact True.intro | (simp only [Conds, rng, Int.toNat_natCast, List.length_append, bytesV_length] <;> omega) | (simp [Conds, rng] <;> omega) | (simp only [Conds, rng, wrap_u8, wrap_u16, wrap_u32, wrap_u64] <;> omega)) ?_) | (refine MC.la true (la_load1 hs rfl (by rfl)) rfl ?_) | (refine MC.part rfl rfl (fun h => absurd h (by first | decide | omega)) (fun _ => ?_)) | (refine MC.part rfl rfl (fun _ => ?_) (fun h => absurd (by first | decide | omega) h)) | (refine MC.cond rfl (fun h => absurd h (by first | decide | omega)) (fun _ => ?_)) | (refine MC.cond rfl (fun _ => ?_) (fun h => absurd (by first | decide | omega) h)))
        refine MC.pure (f := true) (po_slice_hi (b := 150) rfl rfl (by omega)) rfl ?_
        repeat (first | (refine MC.run1 tab 1000 rfl rfl (by first | exact True.intro | (simp only [Conds, rng, Int.toNat_natCast, List.length_append, bytesV_length] <;> omega) | (simp [Conds, rng] <;> omega) | (simp only [Conds, rng, wrap_u8, wrap_u16, wrap_u32, wrap_u64] <;> omega)) ?_) | (refine MC.la true (la_load1 hs rfl (by rfl)) rfl ?_) | (refine MC.part rfl rfl (fun h => absurd h (by first | decide | omega)) (fun _ => ?_)) | (refine MC.part rfl rfl (fun _ => ?_) (fun h => absurd (by first | decide | omega) h)) | (refine MC.cond rfl (fun h => absurd h (by first | decide | omega)) (fun _ => ?_)) | (refine MC.cond rfl (fun _ => ?_) (fun h => absurd (by first | decide | omega) h)))
        exact MC.meet (by repeat (first | exact trivial | refine ⟨rfl, ?_⟩)) hs
      · have e : N = ly.length := by omega
        subst e
        repeat (first | (refine MC.run1 tab 1000 rfl rfl (by first | exact True.intro | (simp only [Conds, rng, Int.toNat_natCast, List.length_append, bytesV_length] <;> omega) | (simp [Conds, rng] <;> omega) | (simp only [Conds, rng, wrap_u8, wrap_u16, wrap_u32, wrap_u64] <;> omega)) ?_) | (refine MC.la true (la_load1 hs rfl (by rfl)) rfl ?_) | (refine MC.part rfl rfl (fun h => absurd h (by first | decide | omega)) (fun _ => ?_)) | (refine MC.part rfl rfl (fun _ => ?_) (fun h => absurd (by first | decide | omega) h)) | (refine MC.cond rfl (fun h => absurd h (by first | decide | omega)) (fun _ => ?_)) | (refine MC.cond rfl (fun _ => ?_) (fun h => absurd (by first | decide | omega) h)))
        exact MC.meet (by repeat (first | exact trivial | refine ⟨rfl, ?_⟩)) hs
    have hs := hs.swap
    have hja := jadd_spec (vb := .slice qy N cy) hs (by rw [hbl]; exact RdS.up hbr) (by omega)
    obtain ⟨en, hen⟩ : ∃ en, addN (szB ([] ++ bd add)) b = en := ⟨_, rfl⟩
    rw [hen, hbl] at hja
    rw [List.nil_append] at hen hja
    have hz := addN_zero (sz := szB (bd add)) (b := b)
    rw [hen, hbl] at hz
    by_cases hfit : szB (bd add) + (14 + N) ≤ 1536
    · obtain rfl : en = 0 := hz.2 hfit
      rw [if_pos hfit] at hja
      repeat (first | (refine MC.run1 tab 1000 rfl rfl (by first | exact True.intro | (simp only [Conds, rng, Int.toNat_natCast, List.length_append, bytesV_length] <;> omega) | (simp [Conds, rng] <;> omega) | (simp only [Conds, rng, wrap_u8, wrap_u16, wrap_u32, wrap_u64] <;> omega)) ?_) | (refine MC.la true (la_load1 hs rfl (by rfl)) rfl ?_) | (refine MC.part rfl rfl (fun h => absurd h (by first | decide | omega)) (fun _ => ?_)) | (refine MC.part rfl rfl (fun _ => ?_) (fun h => absurd (by first | decide | omega) h)) | (refine MC.cond rfl (fun h => absurd h (by first | decide | omega)) (fun _ => ?_)) | (refine MC.cond rfl (fun _ => ?_) (fun h => absurd (by first | decide | omega) h)))
      refine MC.does true (does_call rfl (hja)) rfl ?_
      rintro _ w ⟨rfl, hs⟩
      repeat (first | (refine MC.run1 tab 1000 rfl rfl (by first | exact True.intro | (simp only [Conds, rng, Int.toNat_natCast, List.length_append, bytesV_length] <;> omega) | (simp [Conds, rng] <;> omega) | (simp only [Conds, rng, wrap_u8, wrap_u16, wrap_u32, wrap_u64] <;> omega)) ?_) | (refine MC.la true (la_load1 hs rfl (by rfl)) rfl ?_) | (refine MC.part rfl rfl (fun h => absurd h (by first | decide | omega)) (fun _ => ?_)) | (refine MC.part rfl rfl (fun _ => ?_) (fun h => absurd (by first | decide | omega) h)) | (refine MC.cond rfl (fun h => absurd h (by first | decide | omega)) (fun _ => ?_)) | (refine MC.cond rfl (fun _ => ?_) (fun h => absurd (by first | decide | omega) h)))
      refine MC.does true (does_buildL hs rfl rfl rfl (by first | (intro u hu; simp only [List.mem_cons, List.not_mem_nil, or_false] at hu; rcases hu with rfl | rfl | rfl | rfl | rfl | rfl | rfl | rfl <;> rfl) | (intro u hu; simp only [List.mem_cons, List.not_mem_nil, or_false] at hu; rcases hu with rfl | rfl | rfl | rfl <;> rfl) | (intro u hu; simp only [List.mem_cons, List.not_mem_nil, or_false] at hu; rcases hu with rfl | rfl <;> rfl) | (intro u hu; simp only [List.mem_cons, List.not_mem_nil, or_false] at hu; subst hu; rfl)) rfl) rfl ?_; rintro _ w ⟨b1, rfl, hs⟩
      refine MC.does true (does_append hs rfl rfl (src_at rfl (by first | (intro u hu; simp only [List.mem_cons, List.not_mem_nil, or_false] at hu; rcases hu with rfl | rfl | rfl | rfl | rfl | rfl | rfl | rfl <;> rfl) | (intro u hu; simp only [List.mem_cons, List.not_mem_nil, or_false] at hu; rcases hu with rfl | rfl | rfl | rfl <;> rfl) | (intro u hu; simp only [List.mem_cons, List.not_mem_nil, or_false] at hu; rcases hu with rfl | rfl <;> rfl) | (intro u hu; simp only [List.mem_cons, List.not_mem_nil, or_false] at hu; subst hu; rfl))) (by omega) (by omega)) rfl ?_
      intro va w hs
      have hs := hs.tail
      repeat (first | (refine MC.run1 tab 1000 rfl rfl (by first | exact True.intro | (simp only [Conds, rng, Int.toNat_natCast, List.length_append, bytesV_length] <;> omega) | (simp [Conds, rng] <;> omega) | (simp only [Conds, rng, wrap_u8, wrap_u16, wrap_u32, wrap_u64] <;> omega)) ?_) | (refine MC.la true (la_load1 hs rfl (by rfl)) rfl ?_) | (refine MC.part rfl rfl (fun h => absurd h (by first | decide | omega)) (fun _ => ?_)) | (refine MC.part rfl rfl (fun _ => ?_) (fun h => absurd (by first | decide | omega) h)) | (refine MC.cond rfl (fun h => absurd h (by first | decide | omega)) (fun _ => ?_)) | (refine MC.cond rfl (fun _ => ?_) (fun h => absurd (by first | decide | omega) h)))
      refine MC.again (i + 1, add ++ [((.slice qy N cy : Value), b)], va) (by repeat (first | exact trivial | refine ⟨rfl, ?_⟩)) ⟨hlt, ?_, ?_, ?_⟩ (by show news.length - (i + 1) < news.length - i; omega)
      · intro y hy
        rcases List.mem_append.1 hy with h | h
        · exact hrd y h
        · have : y = ((.slice qy N cy : Value), b) := by simpa using h
          subst this
          show RdS F 1 (.slice qy N cy) b.length (bytesV b)
          rw [hbl]; exact hbr
      · show szB (bd (add ++ [((.slice qy N cy : Value), b)])) ≤ 1536
        rw [bd_app, bd_one, szB_app, szB_one, hbl]; exact hfit
      · show Sat (dev p D2 :: jk r p 3 [] (bd (add ++ [((.slice qy N cy : Value), b)])) :: sl va 22 1 (add ++ [((.slice qy N cy : Value), b)]).length (hd (add ++ [((.slice qy N cy : Value), b)])) :: F) w
        rw [bd_app, bd_one, hd_app, List.length_append]
        exact hs.swap
    · rw [if_neg hfit] at hja
      have hne : ¬ en = 0 := fun h => hfit (hz.1 h)
      repeat (first | (refine MC.run1 tab 1000 rfl rfl (by first | exact True.intro | (simp only [Conds, rng, Int.toNat_natCast, List.length_append, bytesV_length] <;> omega) | (simp [Conds, rng] <;> omega) | (simp only [Conds, rng, wrap_u8, wrap_u16, wrap_u32, wrap_u64] <;> omega)) ?_) | (refine MC.la true (la_load1 hs rfl (by rfl)) rfl ?_) | (refine MC.part rfl rfl (fun h => absurd h (by first | decide | omega)) (fun _ => ?_)) | (refine MC.part rfl rfl (fun _ => ?_) (fun h => absurd (by first | decide | omega) h)) | (refine MC.cond rfl (fun h => absurd h (by first | decide | omega)) (fun _ => ?_)) | (refine MC.cond rfl (fun _ => ?_) (fun h => absurd (by first | decide | omega) h)))
      refine MC.does true (does_call rfl (hja)) rfl ?_
      rintro _ w ⟨rfl, hs⟩
      repeat (first | (refine MC.run1 tab 1000 rfl rfl (by first | exact True.intro | (simp only [Conds, rng, Int.toNat_natCast, List.length_append, bytesV_length] <;> omega) | (simp [Conds, rng] <;> omega) | (simp only [Conds, rng, wrap_u8, wrap_u16, wrap_u32, wrap_u64] <;> omega)) ?_) | (refine MC.la true (la_load1 hs rfl (by rfl)) rfl ?_) | (refine MC.part rfl rfl (fun h => absurd h (by first | decide | omega)) (fun _ => ?_)) | (refine MC.part rfl rfl (fun _ => ?_) (fun h => absurd (by first | decide | omega) h)) | (refine MC.cond rfl (fun h => absurd h (by first | decide | omega)) (fun _ => ?_)) | (refine MC.cond rfl (fun _ => ?_) (fun h => absurd (by first | decide | omega) h)))
      exact MC.again (i + 1, add, .slice qa add.length ca) (by repeat (first | exact trivial | refine ⟨rfl, ?_⟩)) ⟨hlt, hrd, hsz, hs.swap⟩ (by show news.length - (i + 1) < news.length - i; omega)
  rintro ⟨add, va⟩ w hx
  clear hs
  replace hx : (∀ y ∈ add, RdS F 1 y.1 y.2.length (bytesV y.2)) ∧ szB (bd add) ≤ 1536 ∧ Sat (dev p D2 :: jk r p 3 [] (bd add) :: sl va 22 1 add.length (hd add) :: F) w := hx
  obtain ⟨hrd, hsz, hs⟩ := hx
  obtain ⟨-, qa, ca, rfl, -⟩ := (hs.pull 2 rfl).sl_len
  dsimp only []
  have hjc := jcommit_spec hs hD2 (by unfold recsB; exact hl2)
  repeat (first | (refine MC.run1 tab 1000 rfl rfl (by first | exact True.intro | (simp only [Conds, rng, Int.toNat_natCast, List.length_append, bytesV_length] <;> omega) | (simp [Conds, rng] <;> omega) | (simp only [Conds, rng, wrap_u8, wrap_u16, wrap_u32, wrap_u64] <;> omega)) ?_) | (refine MC.la true (la_load1 hs rfl (by rfl)) rfl ?_) | (refine MC.part rfl rfl (fun h => absurd h (by first | decide | omega)) (fun _ => ?_)) | (refine MC.part rfl rfl (fun _ => ?_) (fun h => absurd (by first | decide | omega) h)) | (refine MC.cond rfl (fun h => absurd h (by first | decide | omega)) (fun _ => ?_)) | (refine MC.cond rfl (fun _ => ?_) (fun h => absurd (by first | decide | omega) h)))
  refine MC.does true (does_call rfl (hjc)) rfl ?_
  rintro _ w ⟨rfl, D3, hD3, hl3, hs⟩
  rw [List.nil_append] at hl3
  have hlo := lose_spec (torn := torn) (at' := a') hs hD3.ok (by rw [hD3.noO]; decide) (RdS.up hk)
  repeat (first | (refine MC.run1 tab 1000 rfl rfl (by first | exact True.intro | (simp only [Conds, rng, Int.toNat_natCast, List.length_append, bytesV_length] <;> omega) | (simp [Conds, rng] <;> omega) | (simp only [Conds, rng, wrap_u8, wrap_u16, wrap_u32, wrap_u64] <;> omega)) ?_) | (refine MC.la true (la_load1 hs rfl (by rfl)) rfl ?_) | (refine MC.part rfl rfl (fun h => absurd h (by first | decide | omega)) (fun _ => ?_)) | (refine MC.part rfl rfl (fun _ => ?_) (fun h => absurd (by first | decide | omega) h)) | (refine MC.cond rfl (fun h => absurd h (by first | decide | omega)) (fun _ => ?_)) | (refine MC.cond rfl (fun _ => ?_) (fun h => absurd (by first | decide | omega) h)))
  refine MC.does true (does_call rfl (hlo)) rfl ?_
  rintro _ w ⟨q, rfl, hs⟩
  have hD4 := hD3.lose kept torn a'
  have hl4 := lies_lose hD3 hl3 kept torn a'
  generalize D3.lose kept torn a' = D4 at hs hD4 hl4
  have hop := jopened_spec (E' := 3) hs hD4 hl4 hsz (by decide) (by decide) (by decide)
  repeat (first | (refine MC.run1 tab 1000 rfl rfl (by first | exact True.intro | (simp only [Conds, rng, Int.toNat_natCast, List.length_append, bytesV_length] <;> omega) | (simp [Conds, rng] <;> omega) | (simp only [Conds, rng, wrap_u8, wrap_u16, wrap_u32, wrap_u64] <;> omega)) ?_) | (refine MC.la true (la_load1 hs rfl (by rfl)) rfl ?_) | (refine MC.part rfl rfl (fun h => absurd h (by first | decide | omega)) (fun _ => ?_)) | (refine MC.part rfl rfl (fun _ => ?_) (fun h => absurd (by first | decide | omega) h)) | (refine MC.cond rfl (fun h => absurd h (by first | decide | omega)) (fun _ => ?_)) | (refine MC.cond rfl (fun _ => ?_) (fun h => absurd (by first | decide | omega) h)))
  refine MC.does true (does_call rfl (hop)) rfl ?_
  rintro _ w ⟨r1, vX1, vR1, vA1, rec1, used1, fr1, A1, D5, rfl, hp1, -, hfr1, hc1, hr1, hD5, hl5, hs⟩
  have hop := jopened_spec (E' := 2) hs hD5 hl5 hsz (by decide) (by decide) (by decide)
  repeat (first | (refine MC.run1 tab 1000 rfl rfl (by first | exact True.intro | (simp only [Conds, rng, Int.toNat_natCast, List.length_append, bytesV_length] <;> omega) | (simp [Conds, rng] <;> omega) | (simp only [Conds, rng, wrap_u8, wrap_u16, wrap_u32, wrap_u64] <;> omega)) ?_) | (refine MC.la true (la_load1 hs rfl (by rfl)) rfl ?_) | (refine MC.part rfl rfl (fun h => absurd h (by first | decide | omega)) (fun _ => ?_)) | (refine MC.part rfl rfl (fun _ => ?_) (fun h => absurd (by first | decide | omega) h)) | (refine MC.cond rfl (fun h => absurd h (by first | decide | omega)) (fun _ => ?_)) | (refine MC.cond rfl (fun _ => ?_) (fun h => absurd (by first | decide | omega) h)))
  refine MC.does true (does_call rfl (hop)) rfl ?_
  rintro _ w ⟨r2, vX2, vR2, vA2, rec2, used2, fr2, A2, D6, rfl, -, hp2, -, hc2, hr2, hD6, hl6, hs⟩
  obtain rfl : rec2 = [] := hp2 (by decide)
  have hp1 : rec1.map (·.2) = bd add := hp1 rfl
  have hrc := records_spec (r := r1) hs (RdS.up (RdS.of_sl (hs.tail.tail.tail.tail.tail))) (fun x hx => ⟨RdS.up (hr1 x hx).1, (hr1 x hx).2⟩) hc1
  repeat (first | (refine MC.run1 tab 1000 rfl rfl (by first | exact True.intro | (simp only [Conds, rng, Int.toNat_natCast, List.length_append, bytesV_length] <;> omega) | (simp [Conds, rng] <;> omega) | (simp only [Conds, rng, wrap_u8, wrap_u16, wrap_u32, wrap_u64] <;> omega)) ?_) | (refine MC.la true (la_load1 hs rfl (by rfl)) rfl ?_) | (refine MC.part rfl rfl (fun h => absurd h (by first | decide | omega)) (fun _ => ?_)) | (refine MC.part rfl rfl (fun _ => ?_) (fun h => absurd (by first | decide | omega) h)) | (refine MC.cond rfl (fun h => absurd h (by first | decide | omega)) (fun _ => ?_)) | (refine MC.cond rfl (fun _ => ?_) (fun h => absurd (by first | decide | omega) h)))
  refine MC.does true (does_call rfl (hrc)) rfl ?_
  rintro vr w ⟨out, hout, hs⟩
  obtain ⟨-, qr, cr, rfl, -⟩ := hs.sl_len
  have hout : out.map (·.2) = add.map (·.2) := hout.trans hp1
  have hol : out.length = add.length := by have := congrArg List.length hout; simpa using this
  have hn1 := szB_few (bd add)
  rw [bd_length] at hn1
  have hsame := same_spec (la := out) (lb := add) hs (RdS.of_sl hs) (RdS.up (RdS.of_sl hs.tail.tail.tail.tail.tail.tail.tail.tail.tail.tail.tail)) (fun x hx => RdS.up (bods_rd hs.tail hx)) (fun x hx => RdS.up (hrd x hx)) hout (by omega)
  repeat (first | (refine MC.run1 tab 1000 rfl rfl (by first | exact True.intro | (simp only [Conds, rng, Int.toNat_natCast, List.length_append, bytesV_length] <;> omega) | (simp [Conds, rng] <;> omega) | (simp only [Conds, rng, wrap_u8, wrap_u16, wrap_u32, wrap_u64] <;> omega)) ?_) | (refine MC.la true (la_load1 hs rfl (by rfl)) rfl ?_) | (refine MC.part rfl rfl (fun h => absurd h (by first | decide | omega)) (fun _ => ?_)) | (refine MC.part rfl rfl (fun _ => ?_) (fun h => absurd (by first | decide | omega) h)) | (refine MC.cond rfl (fun h => absurd h (by first | decide | omega)) (fun _ => ?_)) | (refine MC.cond rfl (fun _ => ?_) (fun h => absurd (by first | decide | omega) h)))
  refine MC.does true (does_call rfl (hsame)) rfl ?_
  rintro _ w ⟨rfl, hs⟩
  have hs := hs.tail.tail
  have hrc2 := records_spec (recs := []) (r := r2) hs (RdS.up (RdS.of_sl hs.tail.tail)) (fun x hx => absurd hx (by simp)) (by decide)
  repeat (first | (refine MC.run1 tab 1000 rfl rfl (by first | exact True.intro | (simp only [Conds, rng, Int.toNat_natCast, List.length_append, bytesV_length] <;> omega) | (simp [Conds, rng] <;> omega) | (simp only [Conds, rng, wrap_u8, wrap_u16, wrap_u32, wrap_u64] <;> omega)) ?_) | (refine MC.la true (la_load1 hs rfl (by rfl)) rfl ?_) | (refine MC.part rfl rfl (fun h => absurd h (by first | decide | omega)) (fun _ => ?_)) | (refine MC.part rfl rfl (fun _ => ?_) (fun h => absurd (by first | decide | omega) h)) | (refine MC.cond rfl (fun h => absurd h (by first | decide | omega)) (fun _ => ?_)) | (refine MC.cond rfl (fun _ => ?_) (fun h => absurd (by first | decide | omega) h)))
  refine MC.does true (does_call rfl (hrc2)) rfl ?_
  rintro vr2 w ⟨out2, hout2, hs⟩
  obtain ⟨-, qr2, cr2, rfl, -⟩ := hs.sl_len
  obtain rfl : out2 = [] := List.map_eq_nil_iff.1 hout2
  repeat (first | (refine MC.run1 tab 1000 rfl rfl (by first | exact True.intro | (simp only [Conds, rng, Int.toNat_natCast, List.length_append, bytesV_length] <;> omega) | (simp [Conds, rng] <;> omega) | (simp only [Conds, rng, wrap_u8, wrap_u16, wrap_u32, wrap_u64] <;> omega)) ?_) | (refine MC.la true (la_load1 hs rfl (by rfl)) rfl ?_) | (refine MC.part rfl rfl (fun h => absurd h (by first | decide | omega)) (fun _ => ?_)) | (refine MC.part rfl rfl (fun _ => ?_) (fun h => absurd (by first | decide | omega) h)) | (refine MC.cond rfl (fun h => absurd h (by first | decide | omega)) (fun _ => ?_)) | (refine MC.cond rfl (fun _ => ?_) (fun h => absurd (by first | decide | omega) h)))
  cases add with
  | nil =>
    repeat (first | (refine MC.run1 tab 1000 rfl rfl (by first | exact True.intro | (simp only [Conds, rng, Int.toNat_natCast, List.length_append, bytesV_length] <;> omega) | (simp [Conds, rng] <;> omega) | (simp only [Conds, rng, wrap_u8, wrap_u16, wrap_u32, wrap_u64] <;> omega)) ?_) | (refine MC.la true (la_load1 hs rfl (by rfl)) rfl ?_) | (refine MC.part rfl rfl (fun h => absurd h (by first | decide | omega)) (fun _ => ?_)) | (refine MC.part rfl rfl (fun _ => ?_) (fun h => absurd (by first | decide | omega) h)) | (refine MC.cond rfl (fun h => absurd h (by first | decide | omega)) (fun _ => ?_)) | (refine MC.cond rfl (fun _ => ?_) (fun h => absurd (by first | decide | omega) h)))
    refine MC.ret rfl ?_
    exact ⟨rfl, Suf.sat hs⟩
  | cons x add =>
    have e3 : fr1 = 3 := hfr1 rfl (by simp [bd])
    subst e3
    have hfr := front_spec (r := r1) hs
    have hne : ¬ (((x :: add).length : Nat) : Int) = 0 := by rw [List.length_cons]; omega
    repeat (first | (refine MC.run1 tab 1000 rfl rfl (by first | exact True.intro | (simp only [Conds, rng, Int.toNat_natCast, List.length_append, bytesV_length] <;> omega) | (simp [Conds, rng] <;> omega) | (simp only [Conds, rng, wrap_u8, wrap_u16, wrap_u32, wrap_u64] <;> omega)) ?_) | (refine MC.la true (la_load1 hs rfl (by rfl)) rfl ?_) | (refine MC.part rfl rfl (fun h => absurd h (by first | decide | omega)) (fun _ => ?_)) | (refine MC.part rfl rfl (fun _ => ?_) (fun h => absurd (by first | decide | omega) h)) | (refine MC.cond rfl (fun h => absurd h (by first | decide | omega)) (fun _ => ?_)) | (refine MC.cond rfl (fun _ => ?_) (fun h => absurd (by first | decide | omega) h)))
    refine MC.does true (does_call rfl (hfr)) rfl ?_
    rintro _ w ⟨rfl, rfl⟩
    repeat (first | (refine MC.run1 tab 1000 rfl rfl (by first | exact True.intro | (simp only [Conds, rng, Int.toNat_natCast, List.length_append, bytesV_length] <;> omega) | (simp [Conds, rng] <;> omega) | (simp only [Conds, rng, wrap_u8, wrap_u16, wrap_u32, wrap_u64] <;> omega)) ?_) | (refine MC.la true (la_load1 hs rfl (by rfl)) rfl ?_) | (refine MC.part rfl rfl (fun h => absurd h (by first | decide | omega)) (fun _ => ?_)) | (refine MC.part rfl rfl (fun _ => ?_) (fun h => absurd (by first | decide | omega) h)) | (refine MC.cond rfl (fun h => absurd h (by first | decide | omega)) (fun _ => ?_)) | (refine MC.cond rfl (fun _ => ?_) (fun h => absurd (by first | decide | omega) h)))
    refine MC.ret rfl ?_
    exact ⟨rfl, Suf.sat hs⟩
end Go.Proofs.YtoigogonccjagaaDoor
