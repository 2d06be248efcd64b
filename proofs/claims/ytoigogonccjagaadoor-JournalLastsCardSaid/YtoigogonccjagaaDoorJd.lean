/- Journals: flush; what a journal says of the heap; its small functions. -/
import Derived.Test.YtoigogonccjagaaDoorJc
set_option linter.unusedVariables false
set_option linter.unusedSimpArgs false
namespace Go.Proofs.YtoigogonccjagaaDoor
open Go Go.Sl Go.Jn
attribute [local irreducible] LooksAt sumB sumF

def part (B : Bs) (k : Nat) : Bs := (B.drop (256 * k)).take 256
def chunk (B : Bs) (k : Nat) : Bs := part B k ++ many (256 - (part B k).length) 0
theorem part_le (B : Bs) (k : Nat) : (part B k).length ≤ 256 := by unfold part; rw [List.length_take]; omega
@[simp] theorem chunk_length (B : Bs) (k : Nat) : (chunk B k).length = 256 := by
  have := part_le B k
  simp only [chunk, List.length_append, many_length]; omega
/-- How many sectors are written. -/
def nWr (B : Bs) (used : Nat) : Nat := (B.length + 255) / 256 - used / 256
set_option maxHeartbeats 2000000 in
theorem flush_spec {F : List Assn} {G : List Value → List Assn} {p r fr count used : Nat} {x y vB : Value} {cs : List Value} {B : Bs} {D : Dev} {w : World} (hs : Sat (dev p D :: F) w)
    [hA : At F r (ptr p :: int ((fr : Nat) : Int) :: int ((count : Nat) : Int) :: x :: y :: vB :: int ((used : Nat) : Int) :: cs) 30 G] (hB : RdS F 1 vB B.length (bytesV B))
    (hD : D.ok) (hO : D.O.length ≤ 50000) (hk : fr + count ≤ D.S.length) (hfit : B.length ≤ count * 256) (hu : used ≤ B.length) :
    Ret Tryd.prog 34 [ptr r] w (burstP D (fun n => chunk B (used / 256 + n)) (fr + used / 256) (nWr B used) p F) := by
  have hfew := hD.few
  obtain ⟨qB, cB, rfl, hcB, _⟩ := hB.shape
  obtain ⟨K, hK⟩ : ∃ K, used / 256 = K := ⟨_, rfl⟩
  obtain ⟨N, hN⟩ : ∃ N, nWr B used = N := ⟨_, rfl⟩
  have hN' : N = (B.length + 255) / 256 - K := by rw [← hN, ← hK]; rfl
  rw [hK, hN]
  refine Ret.enter [(true, ptr r)] _ Tryd.func34 rfl Tryd.ntmps34 rfl ?_
  repeat (first | (refine MC.run1 tab 1000 rfl rfl (by first | exact True.intro | (simp only [Conds, rng, Int.toNat_natCast, List.length_append, bytesV_length] <;> omega) | (simp [Conds, rng] <;> omega) | (simp only [Conds, rng, wrap_u8, wrap_u16, wrap_u32, wrap_u64] <;> omega)) ?_) | (refine MC.la true (la_load1 hs rfl (by rfl)) rfl ?_) | (refine MC.part rfl rfl (fun h => absurd h (by first | decide | omega)) (fun _ => ?_)) | (refine MC.part rfl rfl (fun _ => ?_) (fun h => absurd (by first | decide | omega) h)) | (refine MC.cond rfl (fun h => absurd h (by first | decide | omega)) (fun _ => ?_)) | (refine MC.cond rfl (fun _ => ?_) (fun h => absurd (by first | decide | omega) h)))
  have eK : ((used : Nat) : Int) / 256 = ((K : Nat) : Int) := by omega
  rw [eK]
  refine MC.loop (σ := Nat) (fun n => [(0, true, ptr r), (3, true, int ((K + n : Nat) : Int))])
    (fun n w => n ≤ N ∧ (∀ j, j < n → (D.wrs (fun n => chunk B (K + n)) (fr + K) j).fuse ≠ 1) ∧ Sat (dev p (D.wrs (fun n => chunk B (K + n)) (fr + K) n) :: F) w) (fun n => N - n) 0 (by repeat (first | exact trivial | refine ⟨rfl, ?_⟩)) ⟨Nat.zero_le _, fun j hj => by omega, hs⟩ ?_
  rintro n w hx
  clear hs
  obtain ⟨hn, hal, hs⟩ := hx
  have hok := Dev.wrs_ok hD (f := fun n => chunk B (K + n)) (k := fr + K) (fun _ => by simp) n (by omega)
  have hSl := Dev.wrs_S D (fun n => chunk B (K + n)) (fr + K) n
  have hOl := Dev.wrs_O D (fun n => chunk B (K + n)) (fr + K) n
  have enext : (D.wrs (fun n => chunk B (K + n)) (fr + K) n).write (fr + (K + n)) (chunk B (K + n)) = D.wrs (fun n => chunk B (K + n)) (fr + K) (n + 1) := by rw [← Nat.add_assoc]; rfl
  rcases Nat.lt_or_ge n N with hlt | hge
  · have hin : (K + n) * 256 < B.length := by omega
    obtain ⟨E, hE⟩ : ∃ E, min B.length ((K + n + 1) * 256) = E := ⟨_, rfl⟩
    have hE1 : (K + n) * 256 < E := by omega
    have hE2 : E ≤ B.length := by omega
    have hE3 : E ≤ (K + n + 1) * 256 := by omega
    have emin : min ((B.length : Nat) : Int) ((((K + n : Nat) : Int) + 1) * 256) = ((E : Nat) : Int) := by omega
    have hr3 := hB.sub3 (a := (K + n) * 256) (b := E) (m := E) (by omega) hE2 (Nat.le_refl _)
    have epart : (B.take E).drop ((K + n) * 256) = part B (K + n) := by
      unfold part
      rw [List.drop_take, Nat.mul_comm 256]
      rcases Nat.lt_or_ge B.length ((K + n + 1) * 256) with h | h
      · have h1 : E = B.length := by omega
        rw [List.take_of_length_le (by rw [List.length_drop]; omega), List.take_of_length_le (by rw [List.length_drop]; omega)]
      · have h1 : E - (K + n) * 256 = 256 := by omega
        rw [h1]
    have hpl : (part B (K + n)).length = E - (K + n) * 256 := by rw [← epart, List.length_drop, List.length_take]; omega
    rw [epart] at hr3
    repeat (first | (refine MC.run1 tab 1000 rfl rfl (by first | exact True.intro | (simp only [Conds, rng, Int.toNat_natCast, List.length_append, bytesV_length] <;> omega) | (simp [Conds, rng] <;> omega) | (simp only [Conds, rng, wrap_u8, wrap_u16, wrap_u32, wrap_u64] <;> omega)) ?_) | (refine MC.la true (la_load1 hs rfl (by rfl)) rfl ?_) | (refine MC.part rfl rfl (fun h => absurd h (by first | decide | omega)) (fun _ => ?_)) | (refine MC.part rfl rfl (fun _ => ?_) (fun h => absurd (by first | decide | omega) h)) | (refine MC.cond rfl (fun h => absurd h (by first | decide | omega)) (fun _ => ?_)) | (refine MC.cond rfl (fun _ => ?_) (fun h => absurd (by first | decide | omega) h)))
    rw [emin]
    repeat (first | (refine MC.run1 tab 1000 rfl rfl (by first | exact True.intro | (simp only [Conds, rng, Int.toNat_natCast, List.length_append, bytesV_length] <;> omega) | (simp [Conds, rng] <;> omega) | (simp only [Conds, rng, wrap_u8, wrap_u16, wrap_u32, wrap_u64] <;> omega)) ?_) | (refine MC.la true (la_load1 hs rfl (by rfl)) rfl ?_) | (refine MC.part rfl rfl (fun h => absurd h (by first | decide | omega)) (fun _ => ?_)) | (refine MC.part rfl rfl (fun _ => ?_) (fun h => absurd (by first | decide | omega) h)) | (refine MC.cond rfl (fun h => absurd h (by first | decide | omega)) (fun _ => ?_)) | (refine MC.cond rfl (fun _ => ?_) (fun h => absurd (by first | decide | omega) h)))
    refine MC.pure (f := true) (po_slice3 (a := (K + n) * 256) (b := E) (m := E) rfl rfl rfl rfl (by omega) (by omega) (by omega)) rfl ?_
    repeat (first | (refine MC.run1 tab 1000 rfl rfl (by first | exact True.intro | (simp only [Conds, rng, Int.toNat_natCast, List.length_append, bytesV_length] <;> omega) | (simp [Conds, rng] <;> omega) | (simp only [Conds, rng, wrap_u8, wrap_u16, wrap_u32, wrap_u64] <;> omega)) ?_) | (refine MC.la true (la_load1 hs rfl (by rfl)) rfl ?_) | (refine MC.part rfl rfl (fun h => absurd h (by first | decide | omega)) (fun _ => ?_)) | (refine MC.part rfl rfl (fun _ => ?_) (fun h => absurd (by first | decide | omega) h)) | (refine MC.cond rfl (fun h => absurd h (by first | decide | omega)) (fun _ => ?_)) | (refine MC.cond rfl (fun _ => ?_) (fun h => absurd (by first | decide | omega) h)))
    by_cases hfull : E = (K + n + 1) * 256
    · refine MC.does true (does_append00 rfl rfl (by omega) (Nat.le_refl _)) rfl ?_
      rintro _ w ⟨rfl, rfl⟩
      have h256 : (part B (K + n)).length = 256 := by omega
      have ech : chunk B (K + n) = part B (K + n) := by unfold chunk; rw [h256]; simp [many]
      have e256 : E - (K + n) * 256 = 256 := by omega
      rw [e256] at hr3 ⊢
      have hw := jwrite_spec (r := r) (fr := fr) (k := K + n) (l := chunk B (K + n)) hs hok (by rw [ech]; exact hr3) (by simp) (by omega) (by rw [hSl]; omega)
      rw [enext] at hw
      repeat (first | (refine MC.run1 tab 1000 rfl rfl (by first | exact True.intro | (simp only [Conds, rng, Int.toNat_natCast, List.length_append, bytesV_length] <;> omega) | (simp [Conds, rng] <;> omega) | (simp only [Conds, rng, wrap_u8, wrap_u16, wrap_u32, wrap_u64] <;> omega)) ?_) | (refine MC.la true (la_load1 hs rfl (by rfl)) rfl ?_) | (refine MC.part rfl rfl (fun h => absurd h (by first | decide | omega)) (fun _ => ?_)) | (refine MC.part rfl rfl (fun _ => ?_) (fun h => absurd (by first | decide | omega) h)) | (refine MC.cond rfl (fun h => absurd h (by first | decide | omega)) (fun _ => ?_)) | (refine MC.cond rfl (fun _ => ?_) (fun h => absurd (by first | decide | omega) h)))
      refine MC.does false (does_call rfl (hw)) rfl ?_
      rintro _ w (⟨hf, rfl, hs⟩ | ⟨hf, b, rfl, hs⟩)
      · repeat (first | (refine MC.run1 tab 1000 rfl rfl (by first | exact True.intro | (simp only [Conds, rng, Int.toNat_natCast, List.length_append, bytesV_length] <;> omega) | (simp [Conds, rng] <;> omega) | (simp only [Conds, rng, wrap_u8, wrap_u16, wrap_u32, wrap_u64] <;> omega)) ?_) | (refine MC.la true (la_load1 hs rfl (by rfl)) rfl ?_) | (refine MC.part rfl rfl (fun h => absurd h (by first | decide | omega)) (fun _ => ?_)) | (refine MC.part rfl rfl (fun _ => ?_) (fun h => absurd (by first | decide | omega) h)) | (refine MC.cond rfl (fun h => absurd h (by first | decide | omega)) (fun _ => ?_)) | (refine MC.cond rfl (fun _ => ?_) (fun h => absurd (by first | decide | omega) h)))
        refine MC.pure (f := true) (po_nnil_nil rfl) rfl ?_
        repeat (first | (refine MC.run1 tab 1000 rfl rfl (by first | exact True.intro | (simp only [Conds, rng, Int.toNat_natCast, List.length_append, bytesV_length] <;> omega) | (simp [Conds, rng] <;> omega) | (simp only [Conds, rng, wrap_u8, wrap_u16, wrap_u32, wrap_u64] <;> omega)) ?_) | (refine MC.la true (la_load1 hs rfl (by rfl)) rfl ?_) | (refine MC.part rfl rfl (fun h => absurd h (by first | decide | omega)) (fun _ => ?_)) | (refine MC.part rfl rfl (fun _ => ?_) (fun h => absurd (by first | decide | omega) h)) | (refine MC.cond rfl (fun h => absurd h (by first | decide | omega)) (fun _ => ?_)) | (refine MC.cond rfl (fun _ => ?_) (fun h => absurd (by first | decide | omega) h)))
        refine MC.again (n + 1) (by repeat (first | exact trivial | refine ⟨rfl, ?_⟩)) ⟨hlt, fun j hj => ?_, hs⟩ (by omega)
        rcases Nat.lt_or_ge j n with h | h
        · exact hal j h
        · obtain rfl : j = n := by omega
          exact hf
      · repeat (first | (refine MC.run1 tab 1000 rfl rfl (by first | exact True.intro | (simp only [Conds, rng, Int.toNat_natCast, List.length_append, bytesV_length] <;> omega) | (simp [Conds, rng] <;> omega) | (simp only [Conds, rng, wrap_u8, wrap_u16, wrap_u32, wrap_u64] <;> omega)) ?_) | (refine MC.la true (la_load1 hs rfl (by rfl)) rfl ?_) | (refine MC.part rfl rfl (fun h => absurd h (by first | decide | omega)) (fun _ => ?_)) | (refine MC.part rfl rfl (fun _ => ?_) (fun h => absurd (by first | decide | omega) h)) | (refine MC.cond rfl (fun h => absurd h (by first | decide | omega)) (fun _ => ?_)) | (refine MC.cond rfl (fun _ => ?_) (fun h => absurd (by first | decide | omega) h)))
        refine MC.pure (f := true) (po_nnil_some rfl) rfl ?_
        repeat (first | (refine MC.run1 tab 1000 rfl rfl (by first | exact True.intro | (simp only [Conds, rng, Int.toNat_natCast, List.length_append, bytesV_length] <;> omega) | (simp [Conds, rng] <;> omega) | (simp only [Conds, rng, wrap_u8, wrap_u16, wrap_u32, wrap_u64] <;> omega)) ?_) | (refine MC.la true (la_load1 hs rfl (by rfl)) rfl ?_) | (refine MC.part rfl rfl (fun h => absurd h (by first | decide | omega)) (fun _ => ?_)) | (refine MC.part rfl rfl (fun _ => ?_) (fun h => absurd (by first | decide | omega) h)) | (refine MC.cond rfl (fun h => absurd h (by first | decide | omega)) (fun _ => ?_)) | (refine MC.cond rfl (fun _ => ?_) (fun h => absurd (by first | decide | omega) h)))
        refine MC.ret rfl ?_
        exact .inr ⟨n, by omega, hal, hf, b, rfl, hs⟩
    · refine MC.does true (does_append0F (m := (K + n + 1) * 256 - E) hs hr3 rfl rfl (by decide) (by omega) (by omega) (by omega) (by omega)) rfl ?_
      intro vb w hs
      have ech : bytesV (part B (K + n)) ++ rep ((K + n + 1) * 256 - E) [Value.int .u8 0] = bytesV (chunk B (K + n)) := by
        unfold chunk
        rw [bytesV_append, zeros_bytes]
        congr 2; omega
      have e256 : E - (K + n) * 256 + ((K + n + 1) * 256 - E) = 256 := by omega
      rw [ech, e256] at hs
      have hs : Sat (dev p (D.wrs (fun n => chunk B (K + n)) (fr + K) n) :: sl vb 5 1 256 (bytesV (chunk B (K + n))) :: F) w := hs.swap
      have hw := jwrite_spec (r := r) (fr := fr) (k := K + n) (l := chunk B (K + n)) hs hok (RdS.of_sl hs.tail) (by simp) (by omega) (by rw [hSl]; omega)
      rw [enext] at hw
      repeat (first | (refine MC.run1 tab 1000 rfl rfl (by first | exact True.intro | (simp only [Conds, rng, Int.toNat_natCast, List.length_append, bytesV_length] <;> omega) | (simp [Conds, rng] <;> omega) | (simp only [Conds, rng, wrap_u8, wrap_u16, wrap_u32, wrap_u64] <;> omega)) ?_) | (refine MC.la true (la_load1 hs rfl (by rfl)) rfl ?_) | (refine MC.part rfl rfl (fun h => absurd h (by first | decide | omega)) (fun _ => ?_)) | (refine MC.part rfl rfl (fun _ => ?_) (fun h => absurd (by first | decide | omega) h)) | (refine MC.cond rfl (fun h => absurd h (by first | decide | omega)) (fun _ => ?_)) | (refine MC.cond rfl (fun _ => ?_) (fun h => absurd (by first | decide | omega) h)))
      refine MC.does false (does_call rfl (hw)) rfl ?_
      rintro _ w (⟨hf, rfl, hs⟩ | ⟨hf, b, rfl, hs⟩)
      · repeat (first | (refine MC.run1 tab 1000 rfl rfl (by first | exact True.intro | (simp only [Conds, rng, Int.toNat_natCast, List.length_append, bytesV_length] <;> omega) | (simp [Conds, rng] <;> omega) | (simp only [Conds, rng, wrap_u8, wrap_u16, wrap_u32, wrap_u64] <;> omega)) ?_) | (refine MC.la true (la_load1 hs rfl (by rfl)) rfl ?_) | (refine MC.part rfl rfl (fun h => absurd h (by first | decide | omega)) (fun _ => ?_)) | (refine MC.part rfl rfl (fun _ => ?_) (fun h => absurd (by first | decide | omega) h)) | (refine MC.cond rfl (fun h => absurd h (by first | decide | omega)) (fun _ => ?_)) | (refine MC.cond rfl (fun _ => ?_) (fun h => absurd (by first | decide | omega) h)))
        refine MC.pure (f := true) (po_nnil_nil rfl) rfl ?_
        repeat (first | (refine MC.run1 tab 1000 rfl rfl (by first | exact True.intro | (simp only [Conds, rng, Int.toNat_natCast, List.length_append, bytesV_length] <;> omega) | (simp [Conds, rng] <;> omega) | (simp only [Conds, rng, wrap_u8, wrap_u16, wrap_u32, wrap_u64] <;> omega)) ?_) | (refine MC.la true (la_load1 hs rfl (by rfl)) rfl ?_) | (refine MC.part rfl rfl (fun h => absurd h (by first | decide | omega)) (fun _ => ?_)) | (refine MC.part rfl rfl (fun _ => ?_) (fun h => absurd (by first | decide | omega) h)) | (refine MC.cond rfl (fun h => absurd h (by first | decide | omega)) (fun _ => ?_)) | (refine MC.cond rfl (fun _ => ?_) (fun h => absurd (by first | decide | omega) h)))
        refine MC.again (n + 1) (by repeat (first | exact trivial | refine ⟨rfl, ?_⟩)) ⟨hlt, fun j hj => ?_, hs.swap.tail⟩ (by omega)
        rcases Nat.lt_or_ge j n with h | h
        · exact hal j h
        · obtain rfl : j = n := by omega
          exact hf
      · repeat (first | (refine MC.run1 tab 1000 rfl rfl (by first | exact True.intro | (simp only [Conds, rng, Int.toNat_natCast, List.length_append, bytesV_length] <;> omega) | (simp [Conds, rng] <;> omega) | (simp only [Conds, rng, wrap_u8, wrap_u16, wrap_u32, wrap_u64] <;> omega)) ?_) | (refine MC.la true (la_load1 hs rfl (by rfl)) rfl ?_) | (refine MC.part rfl rfl (fun h => absurd h (by first | decide | omega)) (fun _ => ?_)) | (refine MC.part rfl rfl (fun _ => ?_) (fun h => absurd (by first | decide | omega) h)) | (refine MC.cond rfl (fun h => absurd h (by first | decide | omega)) (fun _ => ?_)) | (refine MC.cond rfl (fun _ => ?_) (fun h => absurd (by first | decide | omega) h)))
        refine MC.pure (f := true) (po_nnil_some rfl) rfl ?_
        repeat (first | (refine MC.run1 tab 1000 rfl rfl (by first | exact True.intro | (simp only [Conds, rng, Int.toNat_natCast, List.length_append, bytesV_length] <;> omega) | (simp [Conds, rng] <;> omega) | (simp only [Conds, rng, wrap_u8, wrap_u16, wrap_u32, wrap_u64] <;> omega)) ?_) | (refine MC.la true (la_load1 hs rfl (by rfl)) rfl ?_) | (refine MC.part rfl rfl (fun h => absurd h (by first | decide | omega)) (fun _ => ?_)) | (refine MC.part rfl rfl (fun _ => ?_) (fun h => absurd (by first | decide | omega) h)) | (refine MC.cond rfl (fun h => absurd h (by first | decide | omega)) (fun _ => ?_)) | (refine MC.cond rfl (fun _ => ?_) (fun h => absurd (by first | decide | omega) h)))
        refine MC.ret rfl ?_
        exact .inr ⟨n, by omega, hal, hf, b, rfl, (hs.pickF 3 [0, 1] rfl rfl : Sat (_ :: _ :: F) w)⟩
  · obtain rfl : n = N := by omega
    have hout : ¬ (K + n) * 256 < B.length := by omega
    have hw := jsync_spec (r := r) hs hok (by omega)
    repeat (first | (refine MC.run1 tab 1000 rfl rfl (by first | exact True.intro | (simp only [Conds, rng, Int.toNat_natCast, List.length_append, bytesV_length] <;> omega) | (simp [Conds, rng] <;> omega) | (simp only [Conds, rng, wrap_u8, wrap_u16, wrap_u32, wrap_u64] <;> omega)) ?_) | (refine MC.la true (la_load1 hs rfl (by rfl)) rfl ?_) | (refine MC.part rfl rfl (fun h => absurd h (by first | decide | omega)) (fun _ => ?_)) | (refine MC.part rfl rfl (fun _ => ?_) (fun h => absurd (by first | decide | omega) h)) | (refine MC.cond rfl (fun h => absurd h (by first | decide | omega)) (fun _ => ?_)) | (refine MC.cond rfl (fun _ => ?_) (fun h => absurd (by first | decide | omega) h)))
    refine MC.does false (does_call rfl (hw)) rfl ?_
    rintro _ w (⟨hf, rfl, hs⟩ | ⟨hf, b, rfl, hs⟩)
    · repeat (first | (refine MC.run1 tab 1000 rfl rfl (by first | exact True.intro | (simp only [Conds, rng, Int.toNat_natCast, List.length_append, bytesV_length] <;> omega) | (simp [Conds, rng] <;> omega) | (simp only [Conds, rng, wrap_u8, wrap_u16, wrap_u32, wrap_u64] <;> omega)) ?_) | (refine MC.la true (la_load1 hs rfl (by rfl)) rfl ?_) | (refine MC.part rfl rfl (fun h => absurd h (by first | decide | omega)) (fun _ => ?_)) | (refine MC.part rfl rfl (fun _ => ?_) (fun h => absurd (by first | decide | omega) h)) | (refine MC.cond rfl (fun h => absurd h (by first | decide | omega)) (fun _ => ?_)) | (refine MC.cond rfl (fun _ => ?_) (fun h => absurd (by first | decide | omega) h)))
      refine MC.ret rfl ?_
      refine .inl ⟨fun j hj => ?_, rfl, hs⟩
      rcases Nat.lt_or_ge j n with h | h
      · exact hal j h
      · obtain rfl : j = n := by omega
        exact hf
    · repeat (first | (refine MC.run1 tab 1000 rfl rfl (by first | exact True.intro | (simp only [Conds, rng, Int.toNat_natCast, List.length_append, bytesV_length] <;> omega) | (simp [Conds, rng] <;> omega) | (simp only [Conds, rng, wrap_u8, wrap_u16, wrap_u32, wrap_u64] <;> omega)) ?_) | (refine MC.la true (la_load1 hs rfl (by rfl)) rfl ?_) | (refine MC.part rfl rfl (fun h => absurd h (by first | decide | omega)) (fun _ => ?_)) | (refine MC.part rfl rfl (fun _ => ?_) (fun h => absurd (by first | decide | omega) h)) | (refine MC.cond rfl (fun h => absurd h (by first | decide | omega)) (fun _ => ?_)) | (refine MC.cond rfl (fun _ => ?_) (fun h => absurd (by first | decide | omega) h)))
      refine MC.ret rfl ?_
      exact .inr ⟨n, Nat.le_refl _, hal, hf, b, rfl, hs⟩
end Go.Proofs.YtoigogonccjagaaDoor
