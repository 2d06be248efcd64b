/- Journals on a device that may be cut: Commit; what both sides keep alike. -/
import Derived.Test.YtoigogonccjagaaDoorJab
import Derived.Test.YtoigogonccjagaaDoorJac
set_option linter.unusedVariables false
set_option linter.unusedSimpArgs false
namespace Go.Proofs.YtoigogonccjagaaDoor
open Go Go.Sl Go.Jn
attribute [local irreducible] LooksAt sumB sumF recB recsB

/-- A device on which nothing is open. -/
structure Dk (D : Dev) : Prop where
  ok : D.ok
  len : D.S.length = 8
  noO : D.O = []
theorem Dok.dk {D : Dev} (h : Dok D) : Dk D := ⟨h.ok, h.len, h.noO⟩
theorem Dk.cut {D : Dev} (h : Dk D) (n : Nat) : Dk (D.cut ((n : Nat) : Int)) := by
  have e : D.cut ((n : Nat) : Int) = { D with fuse := min ((n : Nat) : Int) 1152921504606846976 + 1 } := by unfold Dev.cut; rw [if_neg (by omega)]
  rw [e]
  exact ⟨{ h.ok with fuse0 := by show (0 : Int) ≤ min _ _ + 1; omega, fuse1 := by show (min _ _ + 1 : Int) ≤ _; omega }, h.len, h.noO⟩
theorem cut_S (D : Dev) (n : Int) : (D.cut n).S = D.S := by unfold Dev.cut; split <;> rfl
theorem cut_fuse (D E : Dev) (n : Nat) : (D.cut ((n : Nat) : Int)).fuse = (E.cut ((n : Nat) : Int)).fuse := by
  unfold Dev.cut; rw [if_neg (by omega), if_neg (by omega)]
theorem lies_cut {D : Dev} {B : Bs} (h : lies D B) (n : Int) : lies (D.cut n) B := fun k hk => by rw [cut_S]; exact h k hk
theorem wrs_fuse {D E : Dev} (h : D.fuse = E.fuse) (f g : Nat → Bs) (k j : Nat) : ∀ n, (D.wrs f k n).fuse = (E.wrs g j n).fuse
  | 0 => h
  | n + 1 => by
    show burnt _ = burnt _
    rw [wrs_fuse h f g k j n]
theorem gput_fuse {D E : Dev} (h : D.fuse = E.fuse) (B : Bs) (u m : Nat) : (gput D B u m).fuse = (gput E B u m).fuse := wrs_fuse h _ _ _ _ m
theorem wrs_same (D : Dev) (x : Int) (f : Nat → Bs) (k : Nat) : ∀ n, (D.wrs f k n).O = (({ D with fuse := x } : Dev).wrs f k n).O
  | 0 => rfl
  | n + 1 => by
    show _ ++ _ = _ ++ _
    rw [wrs_same D x f k n]
theorem Dk.flushed {D : Dev} {B : Bs} {u : Nat} (h : Dk D) (hl : lies D (B.take u)) (hu : u ≤ B.length) (hB : B.length ≤ 1536) : Dk (gput D B u (nWr B u)).sync ∧ lies (gput D B u (nWr B u)).sync B := by
  have hn : nWr B u = (B.length + 255) / 256 - u / 256 := rfl
  have hd : Dok { D with fuse := 0 } := ⟨{ h.ok with fuse0 := by show (0 : Int) ≤ 0; decide, fuse1 := by show (0 : Int) ≤ 2305843009213693952; decide }, h.len, h.noO, rfl⟩
  have h1 := lies_flushed hd hl hu hB
  have hS : (gput D B u (nWr B u)).sync.S = (({ D with fuse := 0 } : Dev).wrs (fun n => chunk B (u / 256 + n)) (1 + u / 256) (nWr B u)).sync.S := by
    show laid (gput D B u (nWr B u)).S (gput D B u (nWr B u)).O = laid _ _
    rw [gput_S, Dev.wrs_S]
    unfold gput
    rw [wrs_same D 0]
  refine ⟨⟨Dev.sync_ok (gput_ok h.ok h.len (by omega)), ?_, rfl⟩, fun k hk => by rw [hS]; exact h1 k hk⟩
  show (laid _ _).length = 8
  rw [laid_length, gput_S]; exact h.len
theorem recsB_used (R A : List Bs) : (recsB 2 1 (R ++ A)).take (szB R) = recsB 2 1 R := by
  rw [recsB_append, take_app' (recsB_sz 2 1 R)]
theorem szB_l (R A : List Bs) : szB R ≤ (recsB 2 1 (R ++ A)).length := by rw [recsB_sz, szB_app]; omega
/-- What a Commit leaves. -/
def jcommitP (F : List Assn) (r p : Nat) (D : Dev) (R A : List Bs) (v : Value) (w' : World) : Prop :=
  (A = [] ∧ v = int 0 ∧ Sat (dev p D :: jk r p 2 R A :: F) w') ∨
  (0 < A.length ∧ (∀ i, i ≤ nWr (recsB 2 1 (R ++ A)) (szB R) → (gput D (recsB 2 1 (R ++ A)) (szB R) i).fuse ≠ 1) ∧ v = int 0 ∧ Sat (dev p (gput D (recsB 2 1 (R ++ A)) (szB R) (nWr (recsB 2 1 (R ++ A)) (szB R))).sync :: jk r p 2 (R ++ A) [] :: F) w') ∨
  (0 < A.length ∧ ∃ m, m ≤ nWr (recsB 2 1 (R ++ A)) (szB R) ∧ (∀ i, i < m → (gput D (recsB 2 1 (R ++ A)) (szB R) i).fuse ≠ 1) ∧ (gput D (recsB 2 1 (R ++ A)) (szB R) m).fuse = 1 ∧ v = int 150 ∧ Sat (dev p (gput D (recsB 2 1 (R ++ A)) (szB R) m) :: F) w')
theorem jcommit2_spec {F : List Assn} {r p : Nat} {R A : List Bs} {D : Dev} {w : World} (hs : Sat (dev p D :: jk r p 2 R A :: F) w) (hD : Dk D) (hnum : NumC F) :
    Ret Tryd.prog 10 [ptr r] w fun v w' => jcommitP F r p D R A v w' := by
  obtain ⟨J, hJ, hs1⟩ := jk_open2 hs
  clear hs
  have hs := hs1
  clear hs1
  have hB : J.B.length = szB (R ++ A) := by rw [hJ.B, recsB_sz]
  have hap := szB_app R A
  rcases List.eq_nil_or_concat A with rfl | hA
  · refine (commit_empty hs.swap hJ.opn (List.map_eq_nil_iff.1 hJ.adds)).mono ?_
    rintro _ w ⟨rfl, hs⟩
    exact .inl ⟨rfl, rfl, jk_shut2 hJ hs.swap⟩
  have hpos : 0 < A.length := by obtain ⟨a, b, rfl⟩ := hA; simp
  have hs : Sat (dev J.p D :: jr r J :: F) w := by rw [hJ.p]; exact hs
  refine (commit_spec hs hD.ok (by rw [hD.noO]; decide) (by rw [hJ.fr, hJ.count, hD.len]; decide) (by rw [hB, hJ.count]; have := hJ.fit; omega) (by rw [hJ.used, hB]; omega) hJ.opn (by rw [hJ.nA]; exact hpos) hJ.few (.inr hnum)).mono ?_
  have hput : ∀ m, J.put D m = gput D (recsB 2 1 (R ++ A)) (szB R) m := fun m => by
    unfold gput
    rw [Jl.put, hJ.fr, hJ.B, hJ.used]
  have hnw : nWr J.B J.used = nWr (recsB 2 1 (R ++ A)) (szB R) := by rw [hJ.B, hJ.used]
  have hfit := hJ.fit
  rintro v w (⟨hal, rfl, hs⟩ | ⟨m, hm, hal, hf, rfl, hs⟩)
  · rw [hnw] at hal hs
    rw [hput] at hs
    refine .inr (.inl ⟨hpos, fun i hi => by rw [← hput]; exact hal i hi, rfl, ?_⟩)
    have hs := hs.swap
    rw [show dev J.p (gput D (recsB 2 1 (R ++ A)) (szB R) (nWr (recsB 2 1 (R ++ A)) (szB R))).sync = dev p (gput D (recsB 2 1 (R ++ A)) (szB R) (nWr (recsB 2 1 (R ++ A)) (szB R))).sync by rw [hJ.p]] at hs
    refine jk_shut2 (J := { J with used := J.B.length, recs := J.recs ++ J.adds, adds := [] }) ⟨hJ.p, hJ.fr, hJ.count, hJ.epoch, hJ.opn, ?_, ?_, ?_, rfl, ?_, hJ.ep, _, rfl⟩ hs.swap
    · show J.B = _
      rw [hJ.B, List.append_nil]
    · exact hB
    · show (J.recs ++ J.adds).map (·.2) = _
      rw [List.map_append, hJ.recs, hJ.adds]
    · rw [List.append_nil]; exact hfit
  · rw [hnw] at hm
    rw [hput] at hf hs
    rw [hJ.p] at hs
    exact .inr (.inr ⟨hpos, m, hm, fun i hi => by rw [← hput]; exact hal i hi, hf, rfl, hs⟩)
theorem errC_up {F F' : List Assn} (h : ErrC F) [hF : Suf F' F] : ErrC F' := fun w hw => h w (hF.out w hw)
/-- The bytes behind a loss, of whatever device. -/
def behindB (B : Bs) (u m : Nat) (kept : List Bool) (tn a : Int) : Bs := (List.range 6).flatMap fun k =>
  if 1 + u / 256 ≤ 1 + k ∧ 1 + k < 1 + u / 256 + m then (chunk B k).take (lostN kept tn a (k - u / 256)) ++ (chunk (B.take u) k).drop (lostN kept tn a (k - u / 256)) else chunk (B.take u) k
theorem lose_run {D : Dev} {B : Bs} {u m : Nat} {kept : List Bool} {tn a : Int} (hD : Dk D) (hl : lies D (B.take u)) (hu : u ≤ B.length) (hB : B.length ≤ 1536) (hm : m ≤ nWr B u) : ((gput D B u m).lose kept tn a).run 1 6 = behindB B u m kept tn a := by
  have hn : nWr B u = (B.length + 255) / 256 - u / 256 := rfl
  refine flat_congr fun k hk => ?_
  have hk : k < 6 := List.mem_range.1 hk
  have hWO : (gput D B u m).O.length = m := by rw [gput_O, hD.noO]; simp
  have hlen := hD.len
  show (lost (gput D B u m).S (gput D B u m).O kept tn a (gput D B u m).O.length).getD (1 + k) [] = _
  rw [hWO, gput_S]
  unfold gput
  rw [lost_wrs hD.noO m m (Nat.le_refl _) (by omega) (1 + k), hl k hk]
  by_cases hc : 1 + u / 256 ≤ 1 + k ∧ 1 + k < 1 + u / 256 + m
  · rw [if_pos hc, if_pos hc, show 1 + k - (1 + u / 256) = k - u / 256 by omega, show u / 256 + (k - u / 256) = k by omega]
  · rw [if_neg hc, if_neg hc]
theorem behind_mix {D : Dev} {B : Bs} {u m : Nat} {kept : List Bool} {tn a : Int} (hD : Dk D) (hl : lies D (B.take u)) (hu : u ≤ B.length) (hB : B.length ≤ 1536) (hm : m ≤ nWr B u) : Mix (behindB B u m kept tn a) B u ∧ (behindB B u m kept tn a).length = 1536 := by
  have h := lose_mix (kept := kept) (tn := tn) (a := a) hD.ok hD.len hD.noO hl hu hB hm
  rw [← lose_run (kept := kept) (tn := tn) (a := a) hD hl hu hB hm]
  exact h
end Go.Proofs.YtoigogonccjagaaDoor
