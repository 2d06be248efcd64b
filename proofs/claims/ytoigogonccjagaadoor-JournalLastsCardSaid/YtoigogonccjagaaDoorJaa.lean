/- The document's journal: Commit. -/
import Derived.Test.YtoigogonccjagaaDoorJtb
set_option linter.unusedVariables false
set_option linter.unusedSimpArgs false
namespace Go.Proofs.YtoigogonccjagaaDoor
open Go Go.Sl Go.Jn
attribute [local irreducible] LooksAt sumB sumF recB recsB

theorem rused_at {F : List Assn} {G : List Value → List Assn} {r p : Nat} {cl : Bool} {vD vN : Value} {Dn : List (Value × Bs)} {w : World} (hs : Sat F w) [hA : At F r [ptr p, int 1, int 6, int 2, bool cl, vD, vN, int 0] 65 G]
    (hD : RdS F 1 vD Dn.length (hd Dn)) (hx : ∀ x ∈ Dn, ∃ q c, x.1 = .slice q x.2.length c) (hb : szB (bd Dn) ≤ 1000000) :
    Ret Tryd.prog 44 [ptr r] w fun v w' => v = int ((szB (bd Dn) : Nat) : Int) ∧ w' = w := by
  obtain ⟨q, c, rfl, _⟩ := hD.shape
  have hsz := size16_spec (l := Dn) hs hD hx hb
  refine Ret.enter [(true, ptr r)] _ Tryd.func44 rfl Tryd.ntmps44 rfl ?_
  repeat (first | (refine MC.run1 tab 1000 rfl rfl (by first | exact True.intro | (simp only [Conds, rng, Int.toNat_natCast, List.length_append, bytesV_length] <;> omega) | (simp [Conds, rng] <;> omega) | (simp only [Conds, rng, wrap_u8, wrap_u16, wrap_u32, wrap_u64] <;> omega)) ?_) | (refine MC.la true (la_load1 hs rfl (by rfl)) rfl ?_) | (refine MC.part rfl rfl (fun h => absurd h (by first | decide | omega)) (fun _ => ?_)) | (refine MC.part rfl rfl (fun _ => ?_) (fun h => absurd (by first | decide | omega) h)) | (refine MC.cond rfl (fun h => absurd h (by first | decide | omega)) (fun _ => ?_)) | (refine MC.cond rfl (fun _ => ?_) (fun h => absurd (by first | decide | omega) h)))
  refine MC.does true (does_call rfl (hsz)) rfl ?_
  rintro _ w ⟨rfl, rfl⟩
  repeat (first | (refine MC.run1 tab 1000 rfl rfl (by first | exact True.intro | (simp only [Conds, rng, Int.toNat_natCast, List.length_append, bytesV_length] <;> omega) | (simp [Conds, rng] <;> omega) | (simp only [Conds, rng, wrap_u8, wrap_u16, wrap_u32, wrap_u64] <;> omega)) ?_) | (refine MC.la true (la_load1 hs rfl (by rfl)) rfl ?_) | (refine MC.part rfl rfl (fun h => absurd h (by first | decide | omega)) (fun _ => ?_)) | (refine MC.part rfl rfl (fun _ => ?_) (fun h => absurd (by first | decide | omega) h)) | (refine MC.cond rfl (fun h => absurd h (by first | decide | omega)) (fun _ => ?_)) | (refine MC.cond rfl (fun _ => ?_) (fun h => absurd (by first | decide | omega) h)))
  refine MC.ret rfl ?_
  exact ⟨rfl, rfl⟩
/-- The writes of a group. -/
def gput (D : Dev) (B : Bs) (u m : Nat) : Dev := D.wrs (fun n => chunk B (u / 256 + n)) (1 + u / 256) m
theorem gput_ok {D : Dev} (hD : D.ok) (hl : D.S.length = 8) {B : Bs} {u m : Nat} (hm : u / 256 + m ≤ 6) : (gput D B u m).ok := Dev.wrs_ok hD (fun _ => by simp) m (by rw [hl]; omega)
theorem gput_S (D : Dev) (B : Bs) (u m : Nat) : (gput D B u m).S = D.S := Dev.wrs_S _ _ _ _
theorem gput_O (D : Dev) (B : Bs) (u m : Nat) : (gput D B u m).O.length = D.O.length + m := Dev.wrs_O _ _ _ _
theorem gput_succ {D : Dev} {B : Bs} {u i : Nat} (h : u / 256 ≤ i) : (gput D B u (i - u / 256)).write (1 + i) (chunk B i) = gput D B u (i + 1 - u / 256) := by
  obtain ⟨j, rfl⟩ : ∃ j, i = u / 256 + j := ⟨i - u / 256, by omega⟩
  rw [show u / 256 + j - u / 256 = j by omega, show u / 256 + j + 1 - u / 256 = j + 1 by omega]
  show _ = (gput D B u j).write (1 + u / 256 + j) (chunk B (u / 256 + j))
  rw [Nat.add_assoc]
theorem chunk_cut {B : Bs} {i : Nat} (h : 256 * i < B.length) : ((B ++ many 256 0).take (256 * i + 256)).drop (256 * i) = chunk B i := by
  rw [List.drop_take, show 256 * i + 256 - 256 * i = 256 by omega, List.drop_append_of_le_length (by omega)]
  unfold chunk part
  rw [List.take_append, List.length_drop]
  simp only [List.length_take, List.length_drop, many_take]
  congr 2; omega
theorem recsB_take {l : List Bs} {i : Nat} (h : i < l.length) : recsB 2 1 (l.take (i + 1)) = recsB 2 1 (l.take i) ++ recB 2 (i + 1) l[i] := by
  rw [List.take_add_one, List.getElem?_eq_getElem h, recsB_append, List.length_take, Nat.min_eq_left (by omega), Nat.add_comm 1 i]
  show _ ++ recsB 2 (i + 1) [l[i]] = _
  unfold recsB recsB
  rw [List.append_nil]
/-- The error of a write that was refused. -/
def eN : Option Nat → Int
  | none => 0
  | some _ => 150
/-- What a Commit of the document's leaves. -/
def rcommitP (F : List Assn) (r p : Nat) (D : Dev) (Dn Nw : List (Value × Bs)) (w' : World) : Prop :=
  (Nw = [] ∧ Sat (rdev p D :: rj r p Dn Nw :: F) w') ∨
  (0 < Nw.length ∧ (∀ i, i ≤ nWr (recsB 2 1 (bd Dn ++ bd Nw)) (szB (bd Dn)) → (gput D (recsB 2 1 (bd Dn ++ bd Nw)) (szB (bd Dn)) i).fuse ≠ 1) ∧
    Sat (rdev p (gput D (recsB 2 1 (bd Dn ++ bd Nw)) (szB (bd Dn)) (nWr (recsB 2 1 (bd Dn ++ bd Nw)) (szB (bd Dn)))).sync :: rj r p (Dn ++ Nw) [] :: F) w') ∨
  (0 < Nw.length ∧ ∃ m vD vN, m ≤ nWr (recsB 2 1 (bd Dn ++ bd Nw)) (szB (bd Dn)) ∧ (∀ i, i < m → (gput D (recsB 2 1 (bd Dn ++ bd Nw)) (szB (bd Dn)) i).fuse ≠ 1) ∧ (gput D (recsB 2 1 (bd Dn ++ bd Nw)) (szB (bd Dn)) m).fuse = 1 ∧
    Sat (rdev p (gput D (recsB 2 1 (bd Dn ++ bd Nw)) (szB (bd Dn)) m) :: rjb r p 2 true vD vN :: F) w')
set_option maxHeartbeats 8000000 in
theorem rcommit_spec {F : List Assn} {r p : Nat} {D : Dev} {Dn Nw : List (Value × Bs)} {w : World} (hs : Sat (rdev p D :: rj r p Dn Nw :: F) w) (hD : D.ok) (hl8 : D.S.length = 8) (hO : D.O.length ≤ 50000) (hb : szB (bd Dn ++ bd Nw) ≤ 1536) :
    Ret Tryd.prog 26 [ptr r] w fun _ w' => rcommitP F r p D Dn Nw w' := by
  have hap := szB_app (bd Dn) (bd Nw)
  have hf1 := szB_few (bd Nw)
  have hf2 := szB_few (bd Dn)
  rw [bd_length] at hf1 hf2
  have hs0 := hs
  obtain ⟨vD, vN, hs⟩ := rj_open hs.swap
  obtain ⟨-, qD, cD, rfl, -⟩ := (hs.pull 1 rfl).sl_len
  obtain ⟨-, qN, cN, rfl, -⟩ := (hs.pull 2 rfl).sl_len
  have hs := hs.pickF 5 [4, 0, 1, 2, 3] rfl rfl
  refine Ret.enter [(true, ptr r)] _ Tryd.func26 rfl Tryd.ntmps26 rfl ?_
  repeat (first | (refine MC.run1 tab 1000 rfl rfl (by first | exact True.intro | (simp only [Conds, rng, Int.toNat_natCast, List.length_append, bytesV_length] <;> omega) | (simp [Conds, rng] <;> omega) | (simp only [Conds, rng, wrap_u8, wrap_u16, wrap_u32, wrap_u64] <;> omega)) ?_) | (refine MC.la true (la_load1 hs rfl (by rfl)) rfl ?_) | (refine MC.part rfl rfl (fun h => absurd h (by first | decide | omega)) (fun _ => ?_)) | (refine MC.part rfl rfl (fun _ => ?_) (fun h => absurd (by first | decide | omega) h)) | (refine MC.cond rfl (fun h => absurd h (by first | decide | omega)) (fun _ => ?_)) | (refine MC.cond rfl (fun _ => ?_) (fun h => absurd (by first | decide | omega) h)))
  by_cases hN0 : Nw.length = 0
  · have hN : Nw = [] := List.length_eq_zero_iff.1 hN0
    repeat (first | (refine MC.run1 tab 1000 rfl rfl (by first | exact True.intro | (simp only [Conds, rng, Int.toNat_natCast, List.length_append, bytesV_length] <;> omega) | (simp [Conds, rng] <;> omega) | (simp only [Conds, rng, wrap_u8, wrap_u16, wrap_u32, wrap_u64] <;> omega)) ?_) | (refine MC.la true (la_load1 hs rfl (by rfl)) rfl ?_) | (refine MC.part rfl rfl (fun h => absurd h (by first | decide | omega)) (fun _ => ?_)) | (refine MC.part rfl rfl (fun _ => ?_) (fun h => absurd (by first | decide | omega) h)) | (refine MC.cond rfl (fun h => absurd h (by first | decide | omega)) (fun _ => ?_)) | (refine MC.cond rfl (fun _ => ?_) (fun h => absurd (by first | decide | omega) h)))
    refine MC.ret rfl ?_
    exact .inl ⟨hN, hs0⟩
  have hNp : 0 < Nw.length := by omega
  repeat (first | (refine MC.run1 tab 1000 rfl rfl (by first | exact True.intro | (simp only [Conds, rng, Int.toNat_natCast, List.length_append, bytesV_length] <;> omega) | (simp [Conds, rng] <;> omega) | (simp only [Conds, rng, wrap_u8, wrap_u16, wrap_u32, wrap_u64] <;> omega)) ?_) | (refine MC.la true (la_load1 hs rfl (by rfl)) rfl ?_) | (refine MC.part rfl rfl (fun h => absurd h (by first | decide | omega)) (fun _ => ?_)) | (refine MC.part rfl rfl (fun _ => ?_) (fun h => absurd (by first | decide | omega) h)) | (refine MC.cond rfl (fun h => absurd h (by first | decide | omega)) (fun _ => ?_)) | (refine MC.cond rfl (fun _ => ?_) (fun h => absurd (by first | decide | omega) h)))
  refine MC.draw hs [1,2,3,4,6,7,8,9,0,5,10,11] (by rfl) ?_; intro w hs
  have hone : ∀ l : List (Value × Bs), (∀ x ∈ l, x ∈ Dn ++ Nw) → ∀ u ∈ hd l, u.oneCell' = true := fun l hl u hu => by
    obtain ⟨x, hx, rfl⟩ := List.mem_map.1 hu
    obtain ⟨q, c, e⟩ := rd_shape (hs.pull 4 rfl) x (hl x hx)
    rw [e]; rfl
  have hoD := hone Dn fun x hx => List.mem_append_left _ hx
  have hoN := hone Nw fun x hx => List.mem_append_right _ hx
  have hrD : RdS (sl (.slice qD Dn.length cD) 22 1 Dn.length (hd Dn) :: sl (.slice qN Nw.length cN) 22 1 Nw.length (hd Nw) :: bods 5 (Dn ++ Nw) :: F) 1 (.slice qD Dn.length cD) Dn.length (hd Dn) := RdS.of_sl hs.tail.tail
  have hrN : RdS (sl (.slice qN Nw.length cN) 22 1 Nw.length (hd Nw) :: bods 5 (Dn ++ Nw) :: F) 1 (.slice qN Nw.length cN) Nw.length (hd Nw) := RdS.of_sl hs.tail.tail.tail
  repeat (first | (refine MC.run1 tab 1000 rfl rfl (by first | exact True.intro | (simp only [Conds, rng, Int.toNat_natCast, List.length_append, bytesV_length] <;> omega) | (simp [Conds, rng] <;> omega) | (simp only [Conds, rng, wrap_u8, wrap_u16, wrap_u32, wrap_u64] <;> omega)) ?_) | (refine MC.laD true (la_load1 hs rfl (by rfl)) rfl ?_) | (refine MC.part rfl rfl (fun h => absurd h (by first | decide | omega)) (fun _ => ?_)) | (refine MC.part rfl rfl (fun _ => ?_) (fun h => absurd (by first | decide | omega) h)) | (refine MC.cond rfl (fun h => absurd h (by first | decide | omega)) (fun _ => ?_)) | (refine MC.cond rfl (fun _ => ?_) (fun h => absurd (by first | decide | omega) h)))
  refine MC.doesK true (does_buildSlice0 hs) rfl rfl rfl ?_
  rintro _ w ⟨b1, rfl, hs⟩
  refine ⟨(by repeat (first | exact True.intro | refine ⟨At.sat hs, ?_⟩ | refine ⟨Suf.sat hs, ?_⟩)), ?_⟩
  have hs := Sat.sl_mk (xs := []) (spare := []) (n := 0) (c := 0) (size := 1) hs (Nat.le_refl _) rfl rfl
  repeat (first | (refine MC.run1 tab 1000 rfl rfl (by first | exact True.intro | (simp only [Conds, rng, Int.toNat_natCast, List.length_append, bytesV_length] <;> omega) | (simp [Conds, rng] <;> omega) | (simp only [Conds, rng, wrap_u8, wrap_u16, wrap_u32, wrap_u64] <;> omega)) ?_) | (refine MC.laD true (la_load1 hs rfl (by rfl)) rfl ?_) | (refine MC.part rfl rfl (fun h => absurd h (by first | decide | omega)) (fun _ => ?_)) | (refine MC.part rfl rfl (fun _ => ?_) (fun h => absurd (by first | decide | omega) h)) | (refine MC.cond rfl (fun h => absurd h (by first | decide | omega)) (fun _ => ?_)) | (refine MC.cond rfl (fun _ => ?_) (fun h => absurd (by first | decide | omega) h)))
  refine MC.doesK true (does_append hs rfl rfl (RdS.src hrD hoD) (by omega) (by omega)) rfl rfl rfl ?_
  intro va w hs
  rw [Nat.zero_add, List.nil_append] at hs
  refine ⟨(by repeat (first | exact True.intro | refine ⟨At.sat hs, ?_⟩ | refine ⟨Suf.sat hs, ?_⟩)), ?_⟩
  repeat (first | (refine MC.run1 tab 1000 rfl rfl (by first | exact True.intro | (simp only [Conds, rng, Int.toNat_natCast, List.length_append, bytesV_length] <;> omega) | (simp [Conds, rng] <;> omega) | (simp only [Conds, rng, wrap_u8, wrap_u16, wrap_u32, wrap_u64] <;> omega)) ?_) | (refine MC.laD true (la_load1 hs rfl (by rfl)) rfl ?_) | (refine MC.part rfl rfl (fun h => absurd h (by first | decide | omega)) (fun _ => ?_)) | (refine MC.part rfl rfl (fun _ => ?_) (fun h => absurd (by first | decide | omega) h)) | (refine MC.cond rfl (fun h => absurd h (by first | decide | omega)) (fun _ => ?_)) | (refine MC.cond rfl (fun _ => ?_) (fun h => absurd (by first | decide | omega) h)))
  refine MC.doesK true (does_append hs rfl rfl (RdS.src hrN hoN) (by omega) (by omega)) rfl rfl rfl ?_
  intro va w hs
  refine ⟨(by repeat (first | exact True.intro | refine ⟨At.sat hs, ?_⟩ | refine ⟨Suf.sat hs, ?_⟩)), ?_⟩
  repeat (first | (refine MC.run1 tab 1000 rfl rfl (by first | exact True.intro | (simp only [Conds, rng, Int.toNat_natCast, List.length_append, bytesV_length] <;> omega) | (simp [Conds, rng] <;> omega) | (simp only [Conds, rng, wrap_u8, wrap_u16, wrap_u32, wrap_u64] <;> omega)) ?_) | (refine MC.laD true (la_load1 hs rfl (by rfl)) rfl ?_) | (refine MC.part rfl rfl (fun h => absurd h (by first | decide | omega)) (fun _ => ?_)) | (refine MC.part rfl rfl (fun _ => ?_) (fun h => absurd (by first | decide | omega) h)) | (refine MC.cond rfl (fun h => absurd h (by first | decide | omega)) (fun _ => ?_)) | (refine MC.cond rfl (fun _ => ?_) (fun h => absurd (by first | decide | omega) h)))
  repeat (first | (refine MC.run1 tab 1000 rfl rfl (by first | exact True.intro | (simp only [Conds, rng, Int.toNat_natCast, List.length_append, bytesV_length] <;> omega) | (simp [Conds, rng] <;> omega) | (simp only [Conds, rng, wrap_u8, wrap_u16, wrap_u32, wrap_u64] <;> omega)) ?_) | (refine MC.la true (la_load1 hs rfl (by rfl)) rfl ?_) | (refine MC.part rfl rfl (fun h => absurd h (by first | decide | omega)) (fun _ => ?_)) | (refine MC.part rfl rfl (fun _ => ?_) (fun h => absurd (by first | decide | omega) h)) | (refine MC.cond rfl (fun h => absurd h (by first | decide | omega)) (fun _ => ?_)) | (refine MC.cond rfl (fun _ => ?_) (fun h => absurd (by first | decide | omega) h)))
  have hs := hs.pickF 6 [1, 2, 3, 4, 0, 5] rfl rfl
  obtain ⟨A, hA⟩ : ∃ A, Dn ++ Nw = A := ⟨_, rfl⟩
  have hAl : A.length = Dn.length + Nw.length := by rw [← hA, List.length_append]
  have hAb : bd Dn ++ bd Nw = bd A := by rw [← hA, bd_app]
  have hs1 : Sat (rdev p D :: rjb r p 2 false (.slice qD Dn.length cD) (.slice qN Nw.length cN) :: sl (.slice qD Dn.length cD) 22 1 Dn.length (hd Dn) :: sl (.slice qN Nw.length cN) 22 1 Nw.length (hd Nw) :: sl va 22 1 A.length (hd A) :: bods 5 A :: F) w := by
    rw [hAl, ← hA, hd_app]; exact hs
  clear hs
  have hs := hs1
  clear hs1
  obtain ⟨-, qa, ca, rfl, -⟩ := (hs.pull 4 rfl).sl_len
  unfold rcommitP
  rw [hAb] at hb hap
  rw [hAb, hA]
  have hBl : (recsB 2 1 (bd A)).length = szB (bd A) := recsB_sz 2 1 (bd A)
  have hmem : ∀ x ∈ A, 14 + x.2.length ≤ 1536 := fun x hx => Nat.le_trans (szB_mem (List.mem_map_of_mem (f := (·.2)) hx)) hb
  obtain ⟨U, hU⟩ : ∃ U, szB (bd Dn) = U := ⟨_, rfl⟩
  rw [hU] at hap hf2 ⊢
  have hbD : szB (bd Dn) ≤ 1000000 := by omega
  have hrA : RdS (sl (.slice qa A.length ca) 22 1 A.length (hd A) :: bods 5 A :: F) 1 (.slice qa A.length ca) A.length (hd A) := RdS.of_sl hs.tail.tail.tail.tail
  refine MC.loop (σ := Nat) (fun i => [(0, true, ptr r), (3, true, str (recsB 2 1 ((bd A).take i))), (4, true, .slice qa A.length ca), (5, true, int ((i : Nat) : Int))]) (fun i w => i ≤ A.length ∧ Sat (rdev p D :: rjb r p 2 false (.slice qD Dn.length cD) (.slice qN Nw.length cN) :: sl (.slice qD Dn.length cD) 22 1 Dn.length (hd Dn) :: sl (.slice qN Nw.length cN) 22 1 Nw.length (hd Nw) :: sl (.slice qa A.length ca) 22 1 A.length (hd A) :: bods 5 A :: F) w) (fun i => A.length - i) 0 (by rw [List.take_zero]; unfold recsB; exact (by repeat (first | exact trivial | refine ⟨rfl, ?_⟩))) ⟨Nat.zero_le _, hs⟩ ?_
  rintro i w ⟨hi, hs⟩
  rcases Nat.lt_or_ge i A.length with hlt | hge
  · obtain ⟨ba, oa, rfl, hra⟩ := hrA.at_ (by omega)
    have hat := hd_at A i hlt
    have hxb := bods_rd (hs.pull 5 rfl) (List.getElem_mem hlt)
    have hxl := hmem _ (List.getElem_mem hlt)
    obtain ⟨qx, cx, hqx⟩ := rd_shape (hs.pull 5 rfl) _ (List.getElem_mem hlt)
    have htk : recsB 2 1 ((bd A).take (i + 1)) = recsB 2 1 ((bd A).take i) ++ recB 2 (i + 1) A[i].2 := by
      have := recsB_take (l := bd A) (i := i) (by rw [bd_length]; exact hlt)
      rw [this]; congr 2; simp [bd]
    have hl1 : (recsB 2 1 ((bd A).take i)).length ≤ 1536 := by rw [recsB_sz]; exact Nat.le_trans (szB_le _ _) hb
    have hbo : RdS (bods 5 A :: F) 1 A[i].1 A[i].2.length (bytesV A[i].2) := bods_rd hs.tail.tail.tail.tail.tail (List.getElem_mem hlt)
    obtain ⟨x, hx⟩ : ∃ x, A[i] = x := ⟨_, rfl⟩
    rw [hx] at hat hxl hqx htk hbo
    rw [hqx] at hat hbo
    have hrr := rrecord_spec (e := 2) (n := i + 1) hs (RdS.up hbo) (by omega) (by decide) (by omega)
    have hrl := recB_length 2 (i + 1) x.2
    obtain ⟨S0, hS0⟩ : ∃ S0, recsB 2 1 ((bd A).take i) = S0 := ⟨_, rfl⟩
    obtain ⟨R0, hR0⟩ : ∃ R0, recB 2 (i + 1) x.2 = R0 := ⟨_, rfl⟩
    rw [hS0] at hl1 htk ⊢
    rw [hR0] at htk hrr hrl
    have ei : ((i : Nat) : Int) + 1 = ((i + 1 : Nat) : Int) := by omega
    repeat (first | (refine MC.run1 tab 1000 rfl rfl (by first | exact True.intro | (simp only [Conds, rng, Int.toNat_natCast, List.length_append, bytesV_length] <;> omega) | (simp [Conds, rng] <;> omega) | (simp only [Conds, rng, wrap_u8, wrap_u16, wrap_u32, wrap_u64] <;> omega)) ?_) | (refine MC.la true (la_load1 hs rfl (by rfl)) rfl ?_) | (refine MC.part rfl rfl (fun h => absurd h (by first | decide | omega)) (fun _ => ?_)) | (refine MC.part rfl rfl (fun _ => ?_) (fun h => absurd (by first | decide | omega) h)) | (refine MC.cond rfl (fun h => absurd h (by first | decide | omega)) (fun _ => ?_)) | (refine MC.cond rfl (fun _ => ?_) (fun h => absurd (by first | decide | omega) h)))
    refine MC.draw hs [0,1,2,3,4,5,6,7,8,9,10,11,12,13] (by rfl) ?_; intro w hs
    repeat (first | (refine MC.run1 tab 1000 rfl rfl (by first | exact True.intro | (simp only [Conds, rng, Int.toNat_natCast, List.length_append, bytesV_length] <;> omega) | (simp [Conds, rng] <;> omega) | (simp only [Conds, rng, wrap_u8, wrap_u16, wrap_u32, wrap_u64] <;> omega)) ?_) | (refine MC.laD true (la_load1 hs rfl (by rfl)) rfl ?_) | (refine MC.part rfl rfl (fun h => absurd h (by first | decide | omega)) (fun _ => ?_)) | (refine MC.part rfl rfl (fun _ => ?_) (fun h => absurd (by first | decide | omega) h)) | (refine MC.cond rfl (fun h => absurd h (by first | decide | omega)) (fun _ => ?_)) | (refine MC.cond rfl (fun _ => ?_) (fun h => absurd (by first | decide | omega) h)))
    refine MC.laD true (la_load1_rd hra hs (j := ((i : Nat) : Int).toNat * 1) rfl hat) rfl ?_
    rw [ei]
    have hrr := rrecord_spec (e := 2) (n := i + 1) hs (RdS.up hbo) (by omega) (by decide) (by omega)
    rw [hR0] at hrr
    repeat (first | (refine MC.run1 tab 1000 rfl rfl (by first | exact True.intro | (simp only [Conds, rng, Int.toNat_natCast, List.length_append, bytesV_length] <;> omega) | (simp [Conds, rng] <;> omega) | (simp only [Conds, rng, wrap_u8, wrap_u16, wrap_u32, wrap_u64] <;> omega)) ?_) | (refine MC.laD true (la_load1 hs rfl (by rfl)) rfl ?_) | (refine MC.part rfl rfl (fun h => absurd h (by first | decide | omega)) (fun _ => ?_)) | (refine MC.part rfl rfl (fun _ => ?_) (fun h => absurd (by first | decide | omega) h)) | (refine MC.cond rfl (fun h => absurd h (by first | decide | omega)) (fun _ => ?_)) | (refine MC.cond rfl (fun _ => ?_) (fun h => absurd (by first | decide | omega) h)))
    refine MC.doesK true (does_call rfl hrr) rfl rfl rfl ?_
    rintro _ w ⟨rfl, hs⟩
    refine ⟨(by repeat (first | exact True.intro | refine ⟨At.sat hs, ?_⟩ | refine ⟨Suf.sat hs, ?_⟩)), ?_⟩
    repeat (first | (refine MC.run1 tab 1000 rfl rfl (by first | exact True.intro | (simp only [Conds, rng, Int.toNat_natCast, List.length_append, bytesV_length] <;> omega) | (simp [Conds, rng] <;> omega) | (simp only [Conds, rng, wrap_u8, wrap_u16, wrap_u32, wrap_u64] <;> omega)) ?_) | (refine MC.laD true (la_load1 hs rfl (by rfl)) rfl ?_) | (refine MC.part rfl rfl (fun h => absurd h (by first | decide | omega)) (fun _ => ?_)) | (refine MC.part rfl rfl (fun _ => ?_) (fun h => absurd (by first | decide | omega) h)) | (refine MC.cond rfl (fun h => absurd h (by first | decide | omega)) (fun _ => ?_)) | (refine MC.cond rfl (fun _ => ?_) (fun h => absurd (by first | decide | omega) h)))
    repeat (first | (refine MC.run1 tab 1000 rfl rfl (by first | exact True.intro | (simp only [Conds, rng, Int.toNat_natCast, List.length_append, bytesV_length] <;> omega) | (simp [Conds, rng] <;> omega) | (simp only [Conds, rng, wrap_u8, wrap_u16, wrap_u32, wrap_u64] <;> omega)) ?_) | (refine MC.la true (la_load1 hs rfl (by rfl)) rfl ?_) | (refine MC.part rfl rfl (fun h => absurd h (by first | decide | omega)) (fun _ => ?_)) | (refine MC.part rfl rfl (fun _ => ?_) (fun h => absurd (by first | decide | omega) h)) | (refine MC.cond rfl (fun h => absurd h (by first | decide | omega)) (fun _ => ?_)) | (refine MC.cond rfl (fun _ => ?_) (fun h => absurd (by first | decide | omega) h)))
    rw [← htk]
    exact MC.again (i + 1) (by repeat (first | exact trivial | refine ⟨rfl, ?_⟩)) ⟨hlt, hs⟩ (by omega)
  obtain rfl : i = A.length := by omega
  rw [show (bd A).take A.length = bd A by rw [← bd_length A, List.take_length]]
  obtain ⟨B, hB⟩ : ∃ B, recsB 2 1 (bd A) = B := ⟨_, rfl⟩
  rw [hB] at hBl ⊢
  repeat (first | (refine MC.run1 tab 1000 rfl rfl (by first | exact True.intro | (simp only [Conds, rng, Int.toNat_natCast, List.length_append, bytesV_length] <;> omega) | (simp [Conds, rng] <;> omega) | (simp only [Conds, rng, wrap_u8, wrap_u16, wrap_u32, wrap_u64] <;> omega)) ?_) | (refine MC.la true (la_load1 hs rfl (by rfl)) rfl ?_) | (refine MC.part rfl rfl (fun h => absurd h (by first | decide | omega)) (fun _ => ?_)) | (refine MC.part rfl rfl (fun _ => ?_) (fun h => absurd (by first | decide | omega) h)) | (refine MC.cond rfl (fun h => absurd h (by first | decide | omega)) (fun _ => ?_)) | (refine MC.cond rfl (fun _ => ?_) (fun h => absurd (by first | decide | omega) h)))
  refine MC.does true (does_makeSliceI 256 256 hs rfl rfl (by omega) (by omega) (Nat.le_refl _) (by omega) (by omega)) rfl ?_
  rintro _ w ⟨bz, rfl, hs⟩
  rw [← zeros_bytes] at hs
  have hs : Sat (sl (.slice (some ⟨bz, 0, none⟩) 256 256) 5 1 256 (bytesV (many 256 0)) :: rdev p D :: rjb r p 2 false (.slice qD Dn.length cD) (.slice qN Nw.length cN) :: sl (.slice qD Dn.length cD) 22 1 Dn.length (hd Dn) :: sl (.slice qN Nw.length cN) 22 1 Nw.length (hd Nw) :: sl (.slice qa A.length ca) 22 1 A.length (hd A) :: bods 5 A :: F) w := Sat.sl_mk (spare := []) (by rw [List.append_nil]; exact hs) (Nat.le_refl _) (by simp) (by simp)
  have hzl : (many 256 0).length = 256 := many_length _ _
  have hcut : ∀ i, 256 * i < B.length → ((B ++ many 256 0).take (256 * i + 256)).drop (256 * i) = chunk B i := fun i h => chunk_cut h
  obtain ⟨Z, hZ⟩ : ∃ Z, many 256 0 = Z := ⟨_, rfl⟩
  rw [hZ] at hs hzl hcut
  have hrz := RdS.of_sl hs
  repeat (first | (refine MC.run1 tab 1000 rfl rfl (by first | exact True.intro | (simp only [Conds, rng, Int.toNat_natCast, List.length_append, bytesV_length] <;> omega) | (simp [Conds, rng] <;> omega) | (simp only [Conds, rng, wrap_u8, wrap_u16, wrap_u32, wrap_u64] <;> omega)) ?_) | (refine MC.la true (la_load1 hs rfl (by rfl)) rfl ?_) | (refine MC.part rfl rfl (fun h => absurd h (by first | decide | omega)) (fun _ => ?_)) | (refine MC.part rfl rfl (fun _ => ?_) (fun h => absurd (by first | decide | omega) h)) | (refine MC.cond rfl (fun h => absurd h (by first | decide | omega)) (fun _ => ?_)) | (refine MC.cond rfl (fun _ => ?_) (fun h => absurd (by first | decide | omega) h)))
  refine MC.la true (la_tostr rfl hrz hs) rfl ?_
  have hs := hs.tail
  repeat (first | (refine MC.run1 tab 1000 rfl rfl (by first | exact True.intro | (simp only [Conds, rng, Int.toNat_natCast, List.length_append, bytesV_length] <;> omega) | (simp [Conds, rng] <;> omega) | (simp only [Conds, rng, wrap_u8, wrap_u16, wrap_u32, wrap_u64] <;> omega)) ?_) | (refine MC.la true (la_load1 hs rfl (by rfl)) rfl ?_) | (refine MC.part rfl rfl (fun h => absurd h (by first | decide | omega)) (fun _ => ?_)) | (refine MC.part rfl rfl (fun _ => ?_) (fun h => absurd (by first | decide | omega) h)) | (refine MC.cond rfl (fun h => absurd h (by first | decide | omega)) (fun _ => ?_)) | (refine MC.cond rfl (fun _ => ?_) (fun h => absurd (by first | decide | omega) h)))
  have hn : nWr B U = (B.length + 255) / 256 - U / 256 := rfl
  obtain ⟨n, hnn⟩ : ∃ n, nWr B U = n := ⟨_, rfl⟩
  rw [hnn] at hn ⊢
  obtain ⟨K, hK⟩ : ∃ K, U / 256 = K := ⟨_, rfl⟩
  rw [hK] at hn
  refine MC.cutAtS (σ := Option Nat) 2 (fun o => [(0, true, ptr r), (4, true, .slice qa A.length ca), (7, true, int (eN o))])
    (fun o w => (match o with | none => ∀ j, j < n → (gput D B U j).fuse ≠ 1 | some m => m < n ∧ (∀ j, j < m → (gput D B U j).fuse ≠ 1) ∧ (gput D B U m).fuse = 1) ∧ Sat (rdev p (gput D B U (o.getD n)) :: rjb r p 2 false (.slice qD Dn.length cD) (.slice qN Nw.length cN) :: sl (.slice qD Dn.length cD) 22 1 Dn.length (hd Dn) :: sl (.slice qN Nw.length cN) 22 1 Nw.length (hd Nw) :: sl (.slice qa A.length ca) 22 1 A.length (hd A) :: bods 5 A :: F) w) rfl ?_ ?_
  rotate_left
  · (try dsimp only [List.drop_succ_cons, List.drop_zero, List.take_succ_cons, List.take_zero, List.cons_append, List.nil_append])
    refine MC.loop (σ := Nat × Option Nat) (fun x => [(0, true, ptr r), (3, true, str (B ++ Z)), (4, true, .slice qa A.length ca), (6, true, int ((B.length : Nat) : Int)), (7, true, int (eN x.2)), (8, true, int ((x.1 : Nat) : Int))])
      (fun x w => x.1 ≤ 6 ∧ (match x.2 with | none => ∀ j, j < min x.1 (K + n) - K → (gput D B U j).fuse ≠ 1 | some m => m < n ∧ (∀ j, j < m → (gput D B U j).fuse ≠ 1) ∧ (gput D B U m).fuse = 1) ∧ Sat (rdev p (gput D B U (x.2.getD (min x.1 (K + n) - K))) :: rjb r p 2 false (.slice qD Dn.length cD) (.slice qN Nw.length cN) :: sl (.slice qD Dn.length cD) 22 1 Dn.length (hd Dn) :: sl (.slice qN Nw.length cN) 22 1 Nw.length (hd Nw) :: sl (.slice qa A.length ca) 22 1 A.length (hd A) :: bods 5 A :: F) w)
      (fun x => 6 - x.1) (0, none) (by repeat (first | exact trivial | refine ⟨rfl, ?_⟩)) ⟨by decide, fun j h => by omega, by rw [show (none : Option Nat).getD (min 0 (K + n) - K) = 0 by show min 0 (K + n) - K = 0; omega]; exact hs⟩ ?_
    clear hs
    rintro ⟨i, o⟩ w ⟨hi, ho, hs⟩
    dsimp only [] at hi ho hs ⊢
    cases o with
    | some m =>
      dsimp only [eN, Option.getD] at ho hs ⊢
      rcases Nat.lt_or_ge i 6 with hlt | hge
      · repeat (first | (refine MC.run1 tab 1000 rfl rfl (by first | exact True.intro | (simp only [Conds, rng, Int.toNat_natCast, List.length_append, bytesV_length] <;> omega) | (simp [Conds, rng] <;> omega) | (simp only [Conds, rng, wrap_u8, wrap_u16, wrap_u32, wrap_u64] <;> omega)) ?_) | (refine MC.la true (la_load1 hs rfl (by rfl)) rfl ?_) | (refine MC.part rfl rfl (fun h => absurd h (by first | decide | omega)) (fun _ => ?_)) | (refine MC.part rfl rfl (fun _ => ?_) (fun h => absurd (by first | decide | omega) h)) | (refine MC.cond rfl (fun h => absurd h (by first | decide | omega)) (fun _ => ?_)) | (refine MC.cond rfl (fun _ => ?_) (fun h => absurd (by first | decide | omega) h)))
        exact MC.meetS (some m) (by repeat (first | exact trivial | refine ⟨rfl, ?_⟩)) ⟨ho, hs⟩
      · repeat (first | (refine MC.run1 tab 1000 rfl rfl (by first | exact True.intro | (simp only [Conds, rng, Int.toNat_natCast, List.length_append, bytesV_length] <;> omega) | (simp [Conds, rng] <;> omega) | (simp only [Conds, rng, wrap_u8, wrap_u16, wrap_u32, wrap_u64] <;> omega)) ?_) | (refine MC.la true (la_load1 hs rfl (by rfl)) rfl ?_) | (refine MC.part rfl rfl (fun h => absurd h (by first | decide | omega)) (fun _ => ?_)) | (refine MC.part rfl rfl (fun _ => ?_) (fun h => absurd (by first | decide | omega) h)) | (refine MC.cond rfl (fun h => absurd h (by first | decide | omega)) (fun _ => ?_)) | (refine MC.cond rfl (fun _ => ?_) (fun h => absurd (by first | decide | omega) h)))
        exact MC.meetS (some m) (by repeat (first | exact trivial | refine ⟨rfl, ?_⟩)) ⟨ho, hs⟩
    | none =>
      dsimp only [eN, Option.getD] at ho hs ⊢
      rcases Nat.lt_or_ge i 6 with hlt | hge
      · have hus := rused_at (r := r) (Dn := Dn) hs (RdS.up (RdS.of_sl hs.tail.tail)) (fun x hx => rd_shape (hs.pull 5 rfl) x (by rw [← hA]; exact List.mem_append_left _ hx)) hbD
        rw [hU] at hus
        repeat (first | (refine MC.run1 tab 1000 rfl rfl (by first | exact True.intro | (simp only [Conds, rng, Int.toNat_natCast, List.length_append, bytesV_length] <;> omega) | (simp [Conds, rng] <;> omega) | (simp only [Conds, rng, wrap_u8, wrap_u16, wrap_u32, wrap_u64] <;> omega)) ?_) | (refine MC.la true (la_load1 hs rfl (by rfl)) rfl ?_) | (refine MC.part rfl rfl (fun h => absurd h (by first | decide | omega)) (fun _ => ?_)) | (refine MC.part rfl rfl (fun _ => ?_) (fun h => absurd (by first | decide | omega) h)) | (refine MC.cond rfl (fun h => absurd h (by first | decide | omega)) (fun _ => ?_)) | (refine MC.cond rfl (fun _ => ?_) (fun h => absurd (by first | decide | omega) h)))
        refine MC.does true (does_call rfl (hus)) rfl ?_
        rintro _ w ⟨rfl, rfl⟩
        rcases Nat.lt_or_ge i K with hiK | hiK
        · have e0 : min i (K + n) - K = 0 := by omega
          have e1 : min (i + 1) (K + n) - K = 0 := by omega
          rw [e0] at hs
          repeat (first | (refine MC.run1 tab 1000 rfl rfl (by first | exact True.intro | (simp only [Conds, rng, Int.toNat_natCast, List.length_append, bytesV_length] <;> omega) | (simp [Conds, rng] <;> omega) | (simp only [Conds, rng, wrap_u8, wrap_u16, wrap_u32, wrap_u64] <;> omega)) ?_) | (refine MC.la true (la_load1 hs rfl (by rfl)) rfl ?_) | (refine MC.part rfl rfl (fun h => absurd h (by first | decide | omega)) (fun _ => ?_)) | (refine MC.part rfl rfl (fun _ => ?_) (fun h => absurd (by first | decide | omega) h)) | (refine MC.cond rfl (fun h => absurd h (by first | decide | omega)) (fun _ => ?_)) | (refine MC.cond rfl (fun _ => ?_) (fun h => absurd (by first | decide | omega) h)))
          exact MC.again (i + 1, none) (by repeat (first | exact trivial | refine ⟨rfl, ?_⟩)) ⟨hlt, fun j h => by omega, by show Sat (rdev p (gput D B U (min (i + 1) (K + n) - K)) :: _) w; rw [e1]; exact hs⟩ (by show 6 - (i + 1) < 6 - i; omega)
        rcases Nat.lt_or_ge i (K + n) with hin | hin
        · have e0 : min i (K + n) - K = i - K := by omega
          have e1 : min (i + 1) (K + n) - K = i + 1 - K := by omega
          rw [e0] at hs ho
          have hgo := gput_ok (B := B) (u := U) (m := i - K) hD hl8 (by omega)
          have hgS : (gput D B U (i - K)).S.length = 8 := by rw [gput_S]; exact hl8
          have hgO := gput_O D B U (i - K)
          have hpu := rput_spec (k := 1 + i) (b := chunk B i) hs hgo (by omega) (chunk_length _ _) (by omega)
          have hsu := gput_succ (D := D) (B := B) (u := U) (i := i) (by omega)
          rw [hK] at hsu
          rw [hsu] at hpu
          have hct := hcut i (by omega)
          have ec : List.drop (256 * ((i : Nat) : Int)).toNat (List.take (256 * ((i : Nat) : Int) + 256).toNat (B ++ Z)) = chunk B i := by
            rw [show (256 * ((i : Nat) : Int)).toNat = 256 * i by omega, show (256 * ((i : Nat) : Int) + 256).toNat = 256 * i + 256 by omega]; exact hct
          have ei : (1 : Int) + ((i : Nat) : Int) = ((1 + i : Nat) : Int) := by omega
          have hBZ : (B ++ Z).length = B.length + 256 := by rw [List.length_append, hzl]
          repeat (first | (refine MC.run1 tab 1000 rfl rfl (by first | exact True.intro | (simp only [Conds, rng, Int.toNat_natCast, List.length_append, bytesV_length] <;> omega) | (simp [Conds, rng] <;> omega) | (simp only [Conds, rng, wrap_u8, wrap_u16, wrap_u32, wrap_u64] <;> omega)) ?_) | (refine MC.la true (la_load1 hs rfl (by rfl)) rfl ?_) | (refine MC.part rfl rfl (fun h => absurd h (by first | decide | omega)) (fun _ => ?_)) | (refine MC.part rfl rfl (fun _ => ?_) (fun h => absurd (by first | decide | omega) h)) | (refine MC.cond rfl (fun h => absurd h (by first | decide | omega)) (fun _ => ?_)) | (refine MC.cond rfl (fun _ => ?_) (fun h => absurd (by first | decide | omega) h)))
          refine MC.draw hs [0,1,2,3,4,5,6,7,8,9,10,11,12,13,14,15,16,17,18] (by rfl) ?_; intro w hs
          have hpu := rput_spec (k := 1 + i) (b := chunk B i) hs hgo (by omega) (chunk_length _ _) (by omega)
          rw [hsu] at hpu
          repeat (first | (refine MC.run1 tab 1000 rfl rfl (by first | exact True.intro | (simp only [Conds, rng, Int.toNat_natCast, List.length_append, bytesV_length] <;> omega) | (simp [Conds, rng] <;> omega) | (simp only [Conds, rng, wrap_u8, wrap_u16, wrap_u32, wrap_u64] <;> omega)) ?_) | (refine MC.laD true (la_load1 hs rfl (by rfl)) rfl ?_) | (refine MC.part rfl rfl (fun h => absurd h (by first | decide | omega)) (fun _ => ?_)) | (refine MC.part rfl rfl (fun _ => ?_) (fun h => absurd (by first | decide | omega) h)) | (refine MC.cond rfl (fun h => absurd h (by first | decide | omega)) (fun _ => ?_)) | (refine MC.cond rfl (fun _ => ?_) (fun h => absurd (by first | decide | omega) h)))
          rw [ec, ei]
          by_cases hf : (gput D B U (i - K)).fuse = 1
          · rw [if_pos hf, if_pos hf] at hpu
            refine MC.doesK true (does_call rfl hpu) rfl rfl rfl ?_
            rintro _ w ⟨rfl, hs⟩
            refine ⟨(by repeat (first | exact True.intro | refine ⟨At.sat hs, ?_⟩ | refine ⟨Suf.sat hs, ?_⟩)), ?_⟩
            repeat (first | (refine MC.run1 tab 1000 rfl rfl (by first | exact True.intro | (simp only [Conds, rng, Int.toNat_natCast, List.length_append, bytesV_length] <;> omega) | (simp [Conds, rng] <;> omega) | (simp only [Conds, rng, wrap_u8, wrap_u16, wrap_u32, wrap_u64] <;> omega)) ?_) | (refine MC.laD true (la_load1 hs rfl (by rfl)) rfl ?_) | (refine MC.part rfl rfl (fun h => absurd h (by first | decide | omega)) (fun _ => ?_)) | (refine MC.part rfl rfl (fun _ => ?_) (fun h => absurd (by first | decide | omega) h)) | (refine MC.cond rfl (fun h => absurd h (by first | decide | omega)) (fun _ => ?_)) | (refine MC.cond rfl (fun _ => ?_) (fun h => absurd (by first | decide | omega) h)))
            repeat (first | (refine MC.run1 tab 1000 rfl rfl (by first | exact True.intro | (simp only [Conds, rng, Int.toNat_natCast, List.length_append, bytesV_length] <;> omega) | (simp [Conds, rng] <;> omega) | (simp only [Conds, rng, wrap_u8, wrap_u16, wrap_u32, wrap_u64] <;> omega)) ?_) | (refine MC.la true (la_load1 hs rfl (by rfl)) rfl ?_) | (refine MC.part rfl rfl (fun h => absurd h (by first | decide | omega)) (fun _ => ?_)) | (refine MC.part rfl rfl (fun _ => ?_) (fun h => absurd (by first | decide | omega) h)) | (refine MC.cond rfl (fun h => absurd h (by first | decide | omega)) (fun _ => ?_)) | (refine MC.cond rfl (fun _ => ?_) (fun h => absurd (by first | decide | omega) h)))
            exact MC.again (i + 1, some (i - K)) (by repeat (first | exact trivial | refine ⟨rfl, ?_⟩)) ⟨hlt, ⟨by omega, ho, hf⟩, hs⟩ (by show 6 - (i + 1) < 6 - i; omega)
          · rw [if_neg hf, if_neg hf] at hpu
            refine MC.doesK true (does_call rfl hpu) rfl rfl rfl ?_
            rintro _ w ⟨rfl, hs⟩
            refine ⟨(by repeat (first | exact True.intro | refine ⟨At.sat hs, ?_⟩ | refine ⟨Suf.sat hs, ?_⟩)), ?_⟩
            repeat (first | (refine MC.run1 tab 1000 rfl rfl (by first | exact True.intro | (simp only [Conds, rng, Int.toNat_natCast, List.length_append, bytesV_length] <;> omega) | (simp [Conds, rng] <;> omega) | (simp only [Conds, rng, wrap_u8, wrap_u16, wrap_u32, wrap_u64] <;> omega)) ?_) | (refine MC.laD true (la_load1 hs rfl (by rfl)) rfl ?_) | (refine MC.part rfl rfl (fun h => absurd h (by first | decide | omega)) (fun _ => ?_)) | (refine MC.part rfl rfl (fun _ => ?_) (fun h => absurd (by first | decide | omega) h)) | (refine MC.cond rfl (fun h => absurd h (by first | decide | omega)) (fun _ => ?_)) | (refine MC.cond rfl (fun _ => ?_) (fun h => absurd (by first | decide | omega) h)))
            repeat (first | (refine MC.run1 tab 1000 rfl rfl (by first | exact True.intro | (simp only [Conds, rng, Int.toNat_natCast, List.length_append, bytesV_length] <;> omega) | (simp [Conds, rng] <;> omega) | (simp only [Conds, rng, wrap_u8, wrap_u16, wrap_u32, wrap_u64] <;> omega)) ?_) | (refine MC.la true (la_load1 hs rfl (by rfl)) rfl ?_) | (refine MC.part rfl rfl (fun h => absurd h (by first | decide | omega)) (fun _ => ?_)) | (refine MC.part rfl rfl (fun _ => ?_) (fun h => absurd (by first | decide | omega) h)) | (refine MC.cond rfl (fun h => absurd h (by first | decide | omega)) (fun _ => ?_)) | (refine MC.cond rfl (fun _ => ?_) (fun h => absurd (by first | decide | omega) h)))
            refine MC.again (i + 1, none) (by repeat (first | exact trivial | refine ⟨rfl, ?_⟩)) ⟨hlt, fun j h => ?_, by show Sat (rdev p (gput D B U (min (i + 1) (K + n) - K)) :: _) w; rw [e1]; exact hs⟩ (by show 6 - (i + 1) < 6 - i; omega)
            replace h : j < min (i + 1) (K + n) - K := h
            rw [e1] at h
            rcases Nat.lt_or_ge j (i - K) with h' | h'
            · exact ho j h'
            · obtain rfl : j = i - K := by omega
              exact hf
        · have e0 : min i (K + n) - K = n := by omega
          have e1 : min (i + 1) (K + n) - K = n := by omega
          rw [e0] at hs ho
          repeat (first | (refine MC.run1 tab 1000 rfl rfl (by first | exact True.intro | (simp only [Conds, rng, Int.toNat_natCast, List.length_append, bytesV_length] <;> omega) | (simp [Conds, rng] <;> omega) | (simp only [Conds, rng, wrap_u8, wrap_u16, wrap_u32, wrap_u64] <;> omega)) ?_) | (refine MC.la true (la_load1 hs rfl (by rfl)) rfl ?_) | (refine MC.part rfl rfl (fun h => absurd h (by first | decide | omega)) (fun _ => ?_)) | (refine MC.part rfl rfl (fun _ => ?_) (fun h => absurd (by first | decide | omega) h)) | (refine MC.cond rfl (fun h => absurd h (by first | decide | omega)) (fun _ => ?_)) | (refine MC.cond rfl (fun _ => ?_) (fun h => absurd (by first | decide | omega) h)))
          exact MC.again (i + 1, none) (by repeat (first | exact trivial | refine ⟨rfl, ?_⟩)) ⟨hlt, fun j h => ho j (by have h : j < min (i + 1) (K + n) - K := h; omega), by show Sat (rdev p (gput D B U (min (i + 1) (K + n) - K)) :: _) w; rw [e1]; exact hs⟩ (by show 6 - (i + 1) < 6 - i; omega)
      · obtain rfl : i = 6 := by omega
        repeat (first | (refine MC.run1 tab 1000 rfl rfl (by first | exact True.intro | (simp only [Conds, rng, Int.toNat_natCast, List.length_append, bytesV_length] <;> omega) | (simp [Conds, rng] <;> omega) | (simp only [Conds, rng, wrap_u8, wrap_u16, wrap_u32, wrap_u64] <;> omega)) ?_) | (refine MC.la true (la_load1 hs rfl (by rfl)) rfl ?_) | (refine MC.part rfl rfl (fun h => absurd h (by first | decide | omega)) (fun _ => ?_)) | (refine MC.part rfl rfl (fun _ => ?_) (fun h => absurd (by first | decide | omega) h)) | (refine MC.cond rfl (fun h => absurd h (by first | decide | omega)) (fun _ => ?_)) | (refine MC.cond rfl (fun _ => ?_) (fun h => absurd (by first | decide | omega) h)))
        refine MC.meetS none (by repeat (first | exact trivial | refine ⟨rfl, ?_⟩)) ⟨fun j h => ho j (by omega), ?_⟩
        rw [show min 6 (K + n) - K = n by omega] at hs
        exact hs
  rintro o w ⟨ho, hs⟩
  (try dsimp only [List.drop_succ_cons, List.drop_zero, List.take_succ_cons, List.take_zero, List.cons_append, List.nil_append])
  cases o with
  | some m =>
    dsimp only [eN, Option.getD] at ho hs ⊢
    repeat (first | (refine MC.run1 tab 1000 rfl rfl (by first | exact True.intro | (simp only [Conds, rng, Int.toNat_natCast, List.length_append, bytesV_length] <;> omega) | (simp [Conds, rng] <;> omega) | (simp only [Conds, rng, wrap_u8, wrap_u16, wrap_u32, wrap_u64] <;> omega)) ?_) | (refine MC.la true (la_load1 hs rfl (by rfl)) rfl ?_) | (refine MC.part rfl rfl (fun h => absurd h (by first | decide | omega)) (fun _ => ?_)) | (refine MC.part rfl rfl (fun _ => ?_) (fun h => absurd (by first | decide | omega) h)) | (refine MC.cond rfl (fun h => absurd h (by first | decide | omega)) (fun _ => ?_)) | (refine MC.cond rfl (fun _ => ?_) (fun h => absurd (by first | decide | omega) h)))
    refine MC.does true (does_store1 hs rfl rfl rfl (by first | decide | (simp; done) | (simp; omega))) rfl ?_; intro _ w hs
    repeat (first | (refine MC.run1 tab 1000 rfl rfl (by first | exact True.intro | (simp only [Conds, rng, Int.toNat_natCast, List.length_append, bytesV_length] <;> omega) | (simp [Conds, rng] <;> omega) | (simp only [Conds, rng, wrap_u8, wrap_u16, wrap_u32, wrap_u64] <;> omega)) ?_) | (refine MC.la true (la_load1 hs rfl (by rfl)) rfl ?_) | (refine MC.part rfl rfl (fun h => absurd h (by first | decide | omega)) (fun _ => ?_)) | (refine MC.part rfl rfl (fun _ => ?_) (fun h => absurd (by first | decide | omega) h)) | (refine MC.cond rfl (fun h => absurd h (by first | decide | omega)) (fun _ => ?_)) | (refine MC.cond rfl (fun _ => ?_) (fun h => absurd (by first | decide | omega) h)))
    refine MC.does true (does_store1 hs rfl rfl rfl (by first | decide | (simp; done) | (simp; omega))) rfl ?_; intro _ w hs
    repeat (first | (refine MC.run1 tab 1000 rfl rfl (by first | exact True.intro | (simp only [Conds, rng, Int.toNat_natCast, List.length_append, bytesV_length] <;> omega) | (simp [Conds, rng] <;> omega) | (simp only [Conds, rng, wrap_u8, wrap_u16, wrap_u32, wrap_u64] <;> omega)) ?_) | (refine MC.la true (la_load1 hs rfl (by rfl)) rfl ?_) | (refine MC.part rfl rfl (fun h => absurd h (by first | decide | omega)) (fun _ => ?_)) | (refine MC.part rfl rfl (fun _ => ?_) (fun h => absurd (by first | decide | omega) h)) | (refine MC.cond rfl (fun h => absurd h (by first | decide | omega)) (fun _ => ?_)) | (refine MC.cond rfl (fun _ => ?_) (fun h => absurd (by first | decide | omega) h)))
    refine MC.ret rfl ?_
    exact .inr (.inr ⟨hNp, m, _, _, by omega, ho.2.1, ho.2.2, hs.pickF 6 [0, 1] rfl rfl⟩)
  | none =>
    dsimp only [eN, Option.getD] at ho hs ⊢
    have hgo := gput_ok (B := B) (u := U) (m := n) hD hl8 (by omega)
    have hgO := gput_O D B U n
    have hsy := rsync_spec hs hgo (by omega)
    by_cases hf : (gput D B U n).fuse = 1
    · rw [if_pos hf, if_pos hf] at hsy
      repeat (first | (refine MC.run1 tab 1000 rfl rfl (by first | exact True.intro | (simp only [Conds, rng, Int.toNat_natCast, List.length_append, bytesV_length] <;> omega) | (simp [Conds, rng] <;> omega) | (simp only [Conds, rng, wrap_u8, wrap_u16, wrap_u32, wrap_u64] <;> omega)) ?_) | (refine MC.la true (la_load1 hs rfl (by rfl)) rfl ?_) | (refine MC.part rfl rfl (fun h => absurd h (by first | decide | omega)) (fun _ => ?_)) | (refine MC.part rfl rfl (fun _ => ?_) (fun h => absurd (by first | decide | omega) h)) | (refine MC.cond rfl (fun h => absurd h (by first | decide | omega)) (fun _ => ?_)) | (refine MC.cond rfl (fun _ => ?_) (fun h => absurd (by first | decide | omega) h)))
      refine MC.does true (does_call rfl (hsy)) rfl ?_
      rintro _ w ⟨rfl, hs⟩
      repeat (first | (refine MC.run1 tab 1000 rfl rfl (by first | exact True.intro | (simp only [Conds, rng, Int.toNat_natCast, List.length_append, bytesV_length] <;> omega) | (simp [Conds, rng] <;> omega) | (simp only [Conds, rng, wrap_u8, wrap_u16, wrap_u32, wrap_u64] <;> omega)) ?_) | (refine MC.la true (la_load1 hs rfl (by rfl)) rfl ?_) | (refine MC.part rfl rfl (fun h => absurd h (by first | decide | omega)) (fun _ => ?_)) | (refine MC.part rfl rfl (fun _ => ?_) (fun h => absurd (by first | decide | omega) h)) | (refine MC.cond rfl (fun h => absurd h (by first | decide | omega)) (fun _ => ?_)) | (refine MC.cond rfl (fun _ => ?_) (fun h => absurd (by first | decide | omega) h)))
      refine MC.does true (does_store1 hs rfl rfl rfl (by first | decide | (simp; done) | (simp; omega))) rfl ?_; intro _ w hs
      repeat (first | (refine MC.run1 tab 1000 rfl rfl (by first | exact True.intro | (simp only [Conds, rng, Int.toNat_natCast, List.length_append, bytesV_length] <;> omega) | (simp [Conds, rng] <;> omega) | (simp only [Conds, rng, wrap_u8, wrap_u16, wrap_u32, wrap_u64] <;> omega)) ?_) | (refine MC.la true (la_load1 hs rfl (by rfl)) rfl ?_) | (refine MC.part rfl rfl (fun h => absurd h (by first | decide | omega)) (fun _ => ?_)) | (refine MC.part rfl rfl (fun _ => ?_) (fun h => absurd (by first | decide | omega) h)) | (refine MC.cond rfl (fun h => absurd h (by first | decide | omega)) (fun _ => ?_)) | (refine MC.cond rfl (fun _ => ?_) (fun h => absurd (by first | decide | omega) h)))
      refine MC.does true (does_store1 hs rfl rfl rfl (by first | decide | (simp; done) | (simp; omega))) rfl ?_; intro _ w hs
      repeat (first | (refine MC.run1 tab 1000 rfl rfl (by first | exact True.intro | (simp only [Conds, rng, Int.toNat_natCast, List.length_append, bytesV_length] <;> omega) | (simp [Conds, rng] <;> omega) | (simp only [Conds, rng, wrap_u8, wrap_u16, wrap_u32, wrap_u64] <;> omega)) ?_) | (refine MC.la true (la_load1 hs rfl (by rfl)) rfl ?_) | (refine MC.part rfl rfl (fun h => absurd h (by first | decide | omega)) (fun _ => ?_)) | (refine MC.part rfl rfl (fun _ => ?_) (fun h => absurd (by first | decide | omega) h)) | (refine MC.cond rfl (fun h => absurd h (by first | decide | omega)) (fun _ => ?_)) | (refine MC.cond rfl (fun _ => ?_) (fun h => absurd (by first | decide | omega) h)))
      refine MC.ret rfl ?_
      exact .inr (.inr ⟨hNp, n, _, _, Nat.le_refl _, ho, hf, hs.pickF 6 [0, 1] rfl rfl⟩)
    · rw [if_neg hf, if_neg hf] at hsy
      repeat (first | (refine MC.run1 tab 1000 rfl rfl (by first | exact True.intro | (simp only [Conds, rng, Int.toNat_natCast, List.length_append, bytesV_length] <;> omega) | (simp [Conds, rng] <;> omega) | (simp only [Conds, rng, wrap_u8, wrap_u16, wrap_u32, wrap_u64] <;> omega)) ?_) | (refine MC.la true (la_load1 hs rfl (by rfl)) rfl ?_) | (refine MC.part rfl rfl (fun h => absurd h (by first | decide | omega)) (fun _ => ?_)) | (refine MC.part rfl rfl (fun _ => ?_) (fun h => absurd (by first | decide | omega) h)) | (refine MC.cond rfl (fun h => absurd h (by first | decide | omega)) (fun _ => ?_)) | (refine MC.cond rfl (fun _ => ?_) (fun h => absurd (by first | decide | omega) h)))
      refine MC.does true (does_call rfl (hsy)) rfl ?_
      rintro _ w ⟨rfl, hs⟩
      repeat (first | (refine MC.run1 tab 1000 rfl rfl (by first | exact True.intro | (simp only [Conds, rng, Int.toNat_natCast, List.length_append, bytesV_length] <;> omega) | (simp [Conds, rng] <;> omega) | (simp only [Conds, rng, wrap_u8, wrap_u16, wrap_u32, wrap_u64] <;> omega)) ?_) | (refine MC.la true (la_load1 hs rfl (by rfl)) rfl ?_) | (refine MC.part rfl rfl (fun h => absurd h (by first | decide | omega)) (fun _ => ?_)) | (refine MC.part rfl rfl (fun _ => ?_) (fun h => absurd (by first | decide | omega) h)) | (refine MC.cond rfl (fun h => absurd h (by first | decide | omega)) (fun _ => ?_)) | (refine MC.cond rfl (fun _ => ?_) (fun h => absurd (by first | decide | omega) h)))
      refine MC.does true (does_store1 hs rfl rfl rfl (by first | decide | (simp; done) | (simp; omega))) rfl ?_; intro _ w hs
      repeat (first | (refine MC.run1 tab 1000 rfl rfl (by first | exact True.intro | (simp only [Conds, rng, Int.toNat_natCast, List.length_append, bytesV_length] <;> omega) | (simp [Conds, rng] <;> omega) | (simp only [Conds, rng, wrap_u8, wrap_u16, wrap_u32, wrap_u64] <;> omega)) ?_) | (refine MC.la true (la_load1 hs rfl (by rfl)) rfl ?_) | (refine MC.part rfl rfl (fun h => absurd h (by first | decide | omega)) (fun _ => ?_)) | (refine MC.part rfl rfl (fun _ => ?_) (fun h => absurd (by first | decide | omega) h)) | (refine MC.cond rfl (fun h => absurd h (by first | decide | omega)) (fun _ => ?_)) | (refine MC.cond rfl (fun _ => ?_) (fun h => absurd (by first | decide | omega) h)))
      refine MC.does true (does_store1 hs rfl rfl rfl (by first | decide | (simp; done) | (simp; omega))) rfl ?_; intro _ w hs
      repeat (first | (refine MC.run1 tab 1000 rfl rfl (by first | exact True.intro | (simp only [Conds, rng, Int.toNat_natCast, List.length_append, bytesV_length] <;> omega) | (simp [Conds, rng] <;> omega) | (simp only [Conds, rng, wrap_u8, wrap_u16, wrap_u32, wrap_u64] <;> omega)) ?_) | (refine MC.la true (la_load1 hs rfl (by rfl)) rfl ?_) | (refine MC.part rfl rfl (fun h => absurd h (by first | decide | omega)) (fun _ => ?_)) | (refine MC.part rfl rfl (fun _ => ?_) (fun h => absurd (by first | decide | omega) h)) | (refine MC.cond rfl (fun h => absurd h (by first | decide | omega)) (fun _ => ?_)) | (refine MC.cond rfl (fun _ => ?_) (fun h => absurd (by first | decide | omega) h)))
      refine MC.ret rfl ?_
      refine .inr (.inl ⟨hNp, fun j h => ?_, ?_⟩)
      · rcases Nat.lt_or_ge j n with h' | h'
        · exact ho j h'
        · obtain rfl : j = n := by omega
          exact hf
      · have h1 := (hs.pickF 6 [1, 4, 0, 5] rfl rfl).sl_nil 22 1
        have h2 := h1.pickF 5 [1, 2, 0, 4, 3] rfl rfl
        rw [← List.append_nil A] at h2
        exact (rj_shut (Dn := A) (Nw := []) (by
          have := h2
          rw [List.append_nil A] at this
          rw [List.append_nil]
          exact this)).swap
end Go.Proofs.YtoigogonccjagaaDoor
