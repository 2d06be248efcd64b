/- Journals: what one says of the heap; writes and syncs. -/
import Derived.Test.YtoigogonccjagaaDoorJb
set_option linter.unusedVariables false
set_option linter.unusedSimpArgs false
namespace Go.Proofs.YtoigogonccjagaaDoor
open Go Go.Sl Go.Jn
attribute [local irreducible] LooksAt sumB sumF

theorem errU_h : ∃ ms, Tryd.prog.underlying 71 = some (.interface ms) := ⟨_, Tryd.underlying71⟩
noncomputable def errMs : Array (String × TypeId) := Classical.choose errU_h
instance errU : TyU Tryd.prog 71 (.interface errMs) := ⟨Classical.choose_spec errU_h⟩
theorem zeros_bytes (n : Nat) : bytesV (many n 0) = rep n [Value.int .u8 0] := by
  rw [rep_one]; simp [bytesV, many]
abbrev refused (e : Int) : List Value := [int e]
theorem write_wrong {D : Dev} {fr k n : Nat} (hk : fr + k < D.S.length) (hn : n = 256) : D.wrong (((fr : Nat) : Int) + ((k : Nat) : Int)) ((n : Nat) : Int) = if D.fuse = 1 then 150 else 0 := by
  unfold Dev.wrong
  rw [if_neg (by omega), if_neg (by omega)]
theorem sync_wrong {D : Dev} (hD : D.ok) : D.wrong 0 256 = if D.fuse = 1 then 150 else 0 := by
  have := hD.pos
  unfold Dev.wrong
  rw [if_neg (by omega), if_neg (by omega)]
theorem jwrite_spec {F : List Assn} {G : List Value → List Assn} {p r fr k : Nat} {cs : List Value} {D : Dev} {w : World} {vb : Value} {l : List UInt8} (hs : Sat (dev p D :: F) w) [hA : At F r (ptr p :: int ((fr : Nat) : Int) :: cs) 30 G]
    (hD : D.ok) (hl : RdS F 1 vb 256 (bytesV l)) (hll : l.length = 256) (hO : D.O.length ≤ 100000) (hk : fr + k < D.S.length) :
    Ret Tryd.prog 51 [ptr r, int ((k : Nat) : Int), vb] w fun v w' => (D.fuse ≠ 1 ∧ v = .nilIface ∧ Sat (dev p (D.write (fr + k) l) :: F) w') ∨ (D.fuse = 1 ∧ ∃ b, v = .iface 100 (ptr b) ∧ Sat (blk b (refused 150) 104 :: dev p D :: F) w') := by
  have hfew := hD.few
  refine Ret.enter [(true, ptr r), (true, int ((k : Nat) : Int)), (true, vb)] _ Tryd.func51 rfl Tryd.ntmps51 rfl ?_
  repeat (first | (refine MC.run1 tab 1000 rfl rfl (by first | exact True.intro | (simp only [Conds, rng, Int.toNat_natCast, List.length_append, bytesV_length] <;> omega) | (simp [Conds, rng] <;> omega) | (simp only [Conds, rng, wrap_u8, wrap_u16, wrap_u32, wrap_u64] <;> omega)) ?_) | (refine MC.la true (la_load1 hs rfl (by rfl)) rfl ?_) | (refine MC.part rfl rfl (fun h => absurd h (by first | decide | omega)) (fun _ => ?_)) | (refine MC.part rfl rfl (fun _ => ?_) (fun h => absurd (by first | decide | omega) h)) | (refine MC.cond rfl (fun h => absurd h (by first | decide | omega)) (fun _ => ?_)) | (refine MC.cond rfl (fun _ => ?_) (fun h => absurd (by first | decide | omega) h)))
  refine MC.draw hs [0,1,2,3,4,5,6,7,8,9,10,11,12] (by rfl) ?_; intro w hs
  have hw := write_spec (k := ((fr : Nat) : Int) + ((k : Nat) : Int)) hs hD hl hO
  rw [write_wrong hk hll] at hw
  have hkn : (((fr : Nat) : Int) + ((k : Nat) : Int)).toNat = fr + k := by omega
  rw [hkn] at hw
  repeat (first | (refine MC.run1 tab 1000 rfl rfl (by first | exact True.intro | (simp only [Conds, rng, Int.toNat_natCast, List.length_append, bytesV_length] <;> omega) | (simp [Conds, rng] <;> omega) | (simp only [Conds, rng, wrap_u8, wrap_u16, wrap_u32, wrap_u64] <;> omega)) ?_) | (refine MC.laD true (la_load1 hs rfl (by rfl)) rfl ?_) | (refine MC.part rfl rfl (fun h => absurd h (by first | decide | omega)) (fun _ => ?_)) | (refine MC.part rfl rfl (fun _ => ?_) (fun h => absurd (by first | decide | omega) h)) | (refine MC.cond rfl (fun h => absurd h (by first | decide | omega)) (fun _ => ?_)) | (refine MC.cond rfl (fun _ => ?_) (fun h => absurd (by first | decide | omega) h)))
  refine MC.doesK true (does_call rfl hw) rfl rfl rfl ?_
  rintro _ w ⟨rfl, hs⟩
  refine ⟨(by repeat (first | exact True.intro | refine ⟨At.sat hs, ?_⟩ | refine ⟨Suf.sat hs, ?_⟩)), ?_⟩
  by_cases hf : D.fuse = 1
  · rw [if_pos hf] at hs ⊢
    rw [if_neg (by decide)] at hs
    repeat (first | (refine MC.run1 tab 1000 rfl rfl (by first | exact True.intro | (simp only [Conds, rng, Int.toNat_natCast, List.length_append, bytesV_length] <;> omega) | (simp [Conds, rng] <;> omega) | (simp only [Conds, rng, wrap_u8, wrap_u16, wrap_u32, wrap_u64] <;> omega)) ?_) | (refine MC.laD true (la_load1 hs rfl (by rfl)) rfl ?_) | (refine MC.part rfl rfl (fun h => absurd h (by first | decide | omega)) (fun _ => ?_)) | (refine MC.part rfl rfl (fun _ => ?_) (fun h => absurd (by first | decide | omega) h)) | (refine MC.cond rfl (fun h => absurd h (by first | decide | omega)) (fun _ => ?_)) | (refine MC.cond rfl (fun _ => ?_) (fun h => absurd (by first | decide | omega) h)))
    repeat (first | (refine MC.run1 tab 1000 rfl rfl (by first | exact True.intro | (simp only [Conds, rng, Int.toNat_natCast, List.length_append, bytesV_length] <;> omega) | (simp [Conds, rng] <;> omega) | (simp only [Conds, rng, wrap_u8, wrap_u16, wrap_u32, wrap_u64] <;> omega)) ?_) | (refine MC.la true (la_load1 hs rfl (by rfl)) rfl ?_) | (refine MC.part rfl rfl (fun h => absurd h (by first | decide | omega)) (fun _ => ?_)) | (refine MC.part rfl rfl (fun _ => ?_) (fun h => absurd (by first | decide | omega) h)) | (refine MC.cond rfl (fun h => absurd h (by first | decide | omega)) (fun _ => ?_)) | (refine MC.cond rfl (fun _ => ?_) (fun h => absurd (by first | decide | omega) h)))
    refine MC.pure (f := true) (po_build (ls := [(0, [int 150])]) (out := [int 150]) rfl rfl ⟨⟨_, rfl, by simp⟩, trivial⟩ rfl) rfl ?_
    refine MC.does true (does_box hs rfl rfl) rfl ?_; rintro _ w ⟨b, rfl, hs⟩
    refine MC.pure (f := true) (po_makeIface rfl) rfl ?_
    repeat (first | (refine MC.run1 tab 1000 rfl rfl (by first | exact True.intro | (simp only [Conds, rng, Int.toNat_natCast, List.length_append, bytesV_length] <;> omega) | (simp [Conds, rng] <;> omega) | (simp only [Conds, rng, wrap_u8, wrap_u16, wrap_u32, wrap_u64] <;> omega)) ?_) | (refine MC.la true (la_load1 hs rfl (by rfl)) rfl ?_) | (refine MC.part rfl rfl (fun h => absurd h (by first | decide | omega)) (fun _ => ?_)) | (refine MC.part rfl rfl (fun _ => ?_) (fun h => absurd (by first | decide | omega) h)) | (refine MC.cond rfl (fun h => absurd h (by first | decide | omega)) (fun _ => ?_)) | (refine MC.cond rfl (fun _ => ?_) (fun h => absurd (by first | decide | omega) h)))
    refine MC.ret rfl ?_
    exact .inr ⟨hf, b, rfl, hs⟩
  · rw [if_neg hf] at hs ⊢
    rw [if_pos rfl] at hs
    repeat (first | (refine MC.run1 tab 1000 rfl rfl (by first | exact True.intro | (simp only [Conds, rng, Int.toNat_natCast, List.length_append, bytesV_length] <;> omega) | (simp [Conds, rng] <;> omega) | (simp only [Conds, rng, wrap_u8, wrap_u16, wrap_u32, wrap_u64] <;> omega)) ?_) | (refine MC.laD true (la_load1 hs rfl (by rfl)) rfl ?_) | (refine MC.part rfl rfl (fun h => absurd h (by first | decide | omega)) (fun _ => ?_)) | (refine MC.part rfl rfl (fun _ => ?_) (fun h => absurd (by first | decide | omega) h)) | (refine MC.cond rfl (fun h => absurd h (by first | decide | omega)) (fun _ => ?_)) | (refine MC.cond rfl (fun _ => ?_) (fun h => absurd (by first | decide | omega) h)))
    repeat (first | (refine MC.run1 tab 1000 rfl rfl (by first | exact True.intro | (simp only [Conds, rng, Int.toNat_natCast, List.length_append, bytesV_length] <;> omega) | (simp [Conds, rng] <;> omega) | (simp only [Conds, rng, wrap_u8, wrap_u16, wrap_u32, wrap_u64] <;> omega)) ?_) | (refine MC.la true (la_load1 hs rfl (by rfl)) rfl ?_) | (refine MC.part rfl rfl (fun h => absurd h (by first | decide | omega)) (fun _ => ?_)) | (refine MC.part rfl rfl (fun _ => ?_) (fun h => absurd (by first | decide | omega) h)) | (refine MC.cond rfl (fun h => absurd h (by first | decide | omega)) (fun _ => ?_)) | (refine MC.cond rfl (fun _ => ?_) (fun h => absurd (by first | decide | omega) h)))
    refine MC.ret rfl ?_
    exact .inl ⟨hf, rfl, hs⟩
theorem jsync_spec {F : List Assn} {G : List Value → List Assn} {p r : Nat} {cs : List Value} {D : Dev} {w : World} (hs : Sat (dev p D :: F) w) [hA : At F r (ptr p :: cs) 30 G]
    (hD : D.ok) (hO : D.O.length ≤ 100000) :
    Ret Tryd.prog 52 [ptr r] w fun v w' => (D.fuse ≠ 1 ∧ v = .nilIface ∧ Sat (dev p D.sync :: F) w') ∨ (D.fuse = 1 ∧ ∃ b, v = .iface 100 (ptr b) ∧ Sat (blk b (refused 150) 104 :: dev p D :: F) w') := by
  have hw := sync_spec hs hD hO
  rw [sync_wrong hD] at hw
  refine Ret.enter [(true, ptr r)] _ Tryd.func52 rfl Tryd.ntmps52 rfl ?_
  by_cases hf : D.fuse = 1
  · rw [if_pos hf, if_neg (by decide)] at hw
    repeat (first | (refine MC.run1 tab 1000 rfl rfl (by first | exact True.intro | (simp only [Conds, rng, Int.toNat_natCast, List.length_append, bytesV_length] <;> omega) | (simp [Conds, rng] <;> omega) | (simp only [Conds, rng, wrap_u8, wrap_u16, wrap_u32, wrap_u64] <;> omega)) ?_) | (refine MC.la true (la_load1 hs rfl (by rfl)) rfl ?_) | (refine MC.part rfl rfl (fun h => absurd h (by first | decide | omega)) (fun _ => ?_)) | (refine MC.part rfl rfl (fun _ => ?_) (fun h => absurd (by first | decide | omega) h)) | (refine MC.cond rfl (fun h => absurd h (by first | decide | omega)) (fun _ => ?_)) | (refine MC.cond rfl (fun _ => ?_) (fun h => absurd (by first | decide | omega) h)))
    refine MC.does true (does_call rfl (hw)) rfl ?_
    rintro _ w ⟨rfl, hs⟩
    repeat (first | (refine MC.run1 tab 1000 rfl rfl (by first | exact True.intro | (simp only [Conds, rng, Int.toNat_natCast, List.length_append, bytesV_length] <;> omega) | (simp [Conds, rng] <;> omega) | (simp only [Conds, rng, wrap_u8, wrap_u16, wrap_u32, wrap_u64] <;> omega)) ?_) | (refine MC.la true (la_load1 hs rfl (by rfl)) rfl ?_) | (refine MC.part rfl rfl (fun h => absurd h (by first | decide | omega)) (fun _ => ?_)) | (refine MC.part rfl rfl (fun _ => ?_) (fun h => absurd (by first | decide | omega) h)) | (refine MC.cond rfl (fun h => absurd h (by first | decide | omega)) (fun _ => ?_)) | (refine MC.cond rfl (fun _ => ?_) (fun h => absurd (by first | decide | omega) h)))
    refine MC.pure (f := true) (po_build (ls := [(0, [int 150])]) (out := [int 150]) rfl rfl ⟨⟨_, rfl, by simp⟩, trivial⟩ rfl) rfl ?_
    refine MC.does true (does_box hs rfl rfl) rfl ?_; rintro _ w ⟨b, rfl, hs⟩
    refine MC.pure (f := true) (po_makeIface rfl) rfl ?_
    repeat (first | (refine MC.run1 tab 1000 rfl rfl (by first | exact True.intro | (simp only [Conds, rng, Int.toNat_natCast, List.length_append, bytesV_length] <;> omega) | (simp [Conds, rng] <;> omega) | (simp only [Conds, rng, wrap_u8, wrap_u16, wrap_u32, wrap_u64] <;> omega)) ?_) | (refine MC.la true (la_load1 hs rfl (by rfl)) rfl ?_) | (refine MC.part rfl rfl (fun h => absurd h (by first | decide | omega)) (fun _ => ?_)) | (refine MC.part rfl rfl (fun _ => ?_) (fun h => absurd (by first | decide | omega) h)) | (refine MC.cond rfl (fun h => absurd h (by first | decide | omega)) (fun _ => ?_)) | (refine MC.cond rfl (fun _ => ?_) (fun h => absurd (by first | decide | omega) h)))
    refine MC.ret rfl ?_
    exact .inr ⟨hf, b, rfl, hs⟩
  · rw [if_neg hf, if_pos rfl] at hw
    repeat (first | (refine MC.run1 tab 1000 rfl rfl (by first | exact True.intro | (simp only [Conds, rng, Int.toNat_natCast, List.length_append, bytesV_length] <;> omega) | (simp [Conds, rng] <;> omega) | (simp only [Conds, rng, wrap_u8, wrap_u16, wrap_u32, wrap_u64] <;> omega)) ?_) | (refine MC.la true (la_load1 hs rfl (by rfl)) rfl ?_) | (refine MC.part rfl rfl (fun h => absurd h (by first | decide | omega)) (fun _ => ?_)) | (refine MC.part rfl rfl (fun _ => ?_) (fun h => absurd (by first | decide | omega) h)) | (refine MC.cond rfl (fun h => absurd h (by first | decide | omega)) (fun _ => ?_)) | (refine MC.cond rfl (fun _ => ?_) (fun h => absurd (by first | decide | omega) h)))
    refine MC.does true (does_call rfl (hw)) rfl ?_
    rintro _ w ⟨rfl, hs⟩
    repeat (first | (refine MC.run1 tab 1000 rfl rfl (by first | exact True.intro | (simp only [Conds, rng, Int.toNat_natCast, List.length_append, bytesV_length] <;> omega) | (simp [Conds, rng] <;> omega) | (simp only [Conds, rng, wrap_u8, wrap_u16, wrap_u32, wrap_u64] <;> omega)) ?_) | (refine MC.la true (la_load1 hs rfl (by rfl)) rfl ?_) | (refine MC.part rfl rfl (fun h => absurd h (by first | decide | omega)) (fun _ => ?_)) | (refine MC.part rfl rfl (fun _ => ?_) (fun h => absurd (by first | decide | omega) h)) | (refine MC.cond rfl (fun h => absurd h (by first | decide | omega)) (fun _ => ?_)) | (refine MC.cond rfl (fun _ => ?_) (fun h => absurd (by first | decide | omega) h)))
    refine MC.ret rfl ?_
    exact .inl ⟨hf, rfl, hs⟩
/-- The device behind n writes of what f tells, from a sector on. -/
def Dev.wrs (D : Dev) (f : Nat → Bs) (k : Nat) : Nat → Dev
  | 0 => D
  | n + 1 => (D.wrs f k n).write (k + n) (f n)
theorem Dev.wrs_S (D : Dev) (f : Nat → Bs) (k : Nat) : ∀ n, (D.wrs f k n).S = D.S
  | 0 => rfl
  | n + 1 => Dev.wrs_S D f k n
theorem Dev.wrs_O (D : Dev) (f : Nat → Bs) (k : Nat) : ∀ n, (D.wrs f k n).O.length = D.O.length + n
  | 0 => rfl
  | n + 1 => by
    show ((D.wrs f k n).O ++ [_]).length = _
    rw [List.length_append, Dev.wrs_O D f k n]; rfl
theorem Dev.wrs_ok {D : Dev} (hD : D.ok) {f : Nat → Bs} {k : Nat} (hf : ∀ i, (f i).length = 256) : ∀ n, k + n ≤ D.S.length → (D.wrs f k n).ok
  | 0, _ => hD
  | n + 1, h => Dev.write_ok (Dev.wrs_ok hD hf n (by omega)) (by rw [Dev.wrs_S]; omega) (hf n)
/-- How a row of writes and a sync end. -/
def burstP (D : Dev) (f : Nat → Bs) (k N : Nat) (p : Nat) (F : List Assn) (v : Value) (w' : World) : Prop :=
  ((∀ i, i ≤ N → (D.wrs f k i).fuse ≠ 1) ∧ v = .nilIface ∧ Sat (dev p (D.wrs f k N).sync :: F) w') ∨
  (∃ m, m ≤ N ∧ (∀ i, i < m → (D.wrs f k i).fuse ≠ 1) ∧ (D.wrs f k m).fuse = 1 ∧ ∃ b, v = .iface 100 (ptr b) ∧ Sat (blk b (refused 150) 104 :: dev p (D.wrs f k m) :: F) w')
theorem wipe_spec {F : List Assn} {G : List Value → List Assn} {p r fr count : Nat} {cs : List Value} {D : Dev} {w : World} (hs : Sat (dev p D :: F) w) [hA : At F r (ptr p :: int ((fr : Nat) : Int) :: int ((count : Nat) : Int) :: cs) 30 G]
    (hD : D.ok) (hO : D.O.length ≤ 50000) (hk : fr + count ≤ D.S.length) :
    Ret Tryd.prog 31 [ptr r] w (burstP D (fun _ => many 256 0) fr count p F) := by
  have hfew := hD.few
  refine Ret.enter [(true, ptr r)] _ Tryd.func31 rfl Tryd.ntmps31 rfl ?_
  repeat (first | (refine MC.run1 tab 1000 rfl rfl (by first | exact True.intro | (simp only [Conds, rng, Int.toNat_natCast, List.length_append, bytesV_length] <;> omega) | (simp [Conds, rng] <;> omega) | (simp only [Conds, rng, wrap_u8, wrap_u16, wrap_u32, wrap_u64] <;> omega)) ?_) | (refine MC.la true (la_load1 hs rfl (by rfl)) rfl ?_) | (refine MC.part rfl rfl (fun h => absurd h (by first | decide | omega)) (fun _ => ?_)) | (refine MC.part rfl rfl (fun _ => ?_) (fun h => absurd (by first | decide | omega) h)) | (refine MC.cond rfl (fun h => absurd h (by first | decide | omega)) (fun _ => ?_)) | (refine MC.cond rfl (fun _ => ?_) (fun h => absurd (by first | decide | omega) h)))
  refine MC.loop (σ := Nat) (fun i => [(0, true, ptr r), (8, true, int ((count : Nat) : Int)), (9, true, int ((i : Nat) : Int))])
    (fun i w => i ≤ count ∧ (∀ j, j < i → (D.wrs (fun _ => many 256 0) fr j).fuse ≠ 1) ∧ Sat (dev p (D.wrs (fun _ => many 256 0) fr i) :: F) w) (fun i => count - i) 0 (by repeat (first | exact trivial | refine ⟨rfl, ?_⟩)) ⟨Nat.zero_le _, fun j hj => by omega, hs⟩ ?_
  rintro i w hx
  clear hs
  obtain ⟨hi, hal, hs⟩ := hx
  have hok := Dev.wrs_ok hD (f := fun _ => many 256 0) (k := fr) (fun _ => by simp) i (by omega)
  have hSl := Dev.wrs_S D (fun _ => many 256 0) fr i
  have hOl := Dev.wrs_O D (fun _ => many 256 0) fr i
  rcases Nat.lt_or_ge i count with hlt | hge
  · repeat (first | (refine MC.run1 tab 1000 rfl rfl (by first | exact True.intro | (simp only [Conds, rng, Int.toNat_natCast, List.length_append, bytesV_length] <;> omega) | (simp [Conds, rng] <;> omega) | (simp only [Conds, rng, wrap_u8, wrap_u16, wrap_u32, wrap_u64] <;> omega)) ?_) | (refine MC.la true (la_load1 hs rfl (by rfl)) rfl ?_) | (refine MC.part rfl rfl (fun h => absurd h (by first | decide | omega)) (fun _ => ?_)) | (refine MC.part rfl rfl (fun _ => ?_) (fun h => absurd (by first | decide | omega) h)) | (refine MC.cond rfl (fun h => absurd h (by first | decide | omega)) (fun _ => ?_)) | (refine MC.cond rfl (fun _ => ?_) (fun h => absurd (by first | decide | omega) h)))
    refine MC.does true (does_makeSliceI 256 256 hs rfl rfl (by omega) (by omega) (Nat.le_refl _) (by omega) (by omega)) rfl ?_
    rintro _ w ⟨b1, rfl, hs⟩
    rw [← zeros_bytes] at hs
    have hs : Sat (sl (.slice (some ⟨b1, 0, none⟩) 256 256) 5 1 256 (bytesV (many 256 0)) :: dev p (D.wrs (fun _ => many 256 0) fr i) :: F) w := Sat.sl_mk (spare := []) (by rw [List.append_nil]; exact hs) (Nat.le_refl _) (by simp) (by simp)
    have hs := hs.swap
    have hw := jwrite_spec (r := r) (fr := fr) (k := i) hs hok (RdS.of_sl hs.tail) (by simp) (by omega) (by rw [hSl]; omega)
    repeat (first | (refine MC.run1 tab 1000 rfl rfl (by first | exact True.intro | (simp only [Conds, rng, Int.toNat_natCast, List.length_append, bytesV_length] <;> omega) | (simp [Conds, rng] <;> omega) | (simp only [Conds, rng, wrap_u8, wrap_u16, wrap_u32, wrap_u64] <;> omega)) ?_) | (refine MC.la true (la_load1 hs rfl (by rfl)) rfl ?_) | (refine MC.part rfl rfl (fun h => absurd h (by first | decide | omega)) (fun _ => ?_)) | (refine MC.part rfl rfl (fun _ => ?_) (fun h => absurd (by first | decide | omega) h)) | (refine MC.cond rfl (fun h => absurd h (by first | decide | omega)) (fun _ => ?_)) | (refine MC.cond rfl (fun _ => ?_) (fun h => absurd (by first | decide | omega) h)))
    refine MC.does false (does_call rfl (hw)) rfl ?_
    rintro _ w (⟨hf, rfl, hs⟩ | ⟨hf, b, rfl, hs⟩)
    · repeat (first | (refine MC.run1 tab 1000 rfl rfl (by first | exact True.intro | (simp only [Conds, rng, Int.toNat_natCast, List.length_append, bytesV_length] <;> omega) | (simp [Conds, rng] <;> omega) | (simp only [Conds, rng, wrap_u8, wrap_u16, wrap_u32, wrap_u64] <;> omega)) ?_) | (refine MC.la true (la_load1 hs rfl (by rfl)) rfl ?_) | (refine MC.part rfl rfl (fun h => absurd h (by first | decide | omega)) (fun _ => ?_)) | (refine MC.part rfl rfl (fun _ => ?_) (fun h => absurd (by first | decide | omega) h)) | (refine MC.cond rfl (fun h => absurd h (by first | decide | omega)) (fun _ => ?_)) | (refine MC.cond rfl (fun _ => ?_) (fun h => absurd (by first | decide | omega) h)))
      refine MC.pure (f := true) (po_nnil_nil rfl) rfl ?_
      repeat (first | (refine MC.run1 tab 1000 rfl rfl (by first | exact True.intro | (simp only [Conds, rng, Int.toNat_natCast, List.length_append, bytesV_length] <;> omega) | (simp [Conds, rng] <;> omega) | (simp only [Conds, rng, wrap_u8, wrap_u16, wrap_u32, wrap_u64] <;> omega)) ?_) | (refine MC.la true (la_load1 hs rfl (by rfl)) rfl ?_) | (refine MC.part rfl rfl (fun h => absurd h (by first | decide | omega)) (fun _ => ?_)) | (refine MC.part rfl rfl (fun _ => ?_) (fun h => absurd (by first | decide | omega) h)) | (refine MC.cond rfl (fun h => absurd h (by first | decide | omega)) (fun _ => ?_)) | (refine MC.cond rfl (fun _ => ?_) (fun h => absurd (by first | decide | omega) h)))
      refine MC.again (i + 1) (by repeat (first | exact trivial | refine ⟨rfl, ?_⟩)) ⟨hlt, fun j hj => ?_, hs.swap.tail⟩ (by omega)
      rcases Nat.lt_or_ge j i with h | h
      · exact hal j h
      · obtain rfl : j = i := by omega
        exact hf
    · repeat (first | (refine MC.run1 tab 1000 rfl rfl (by first | exact True.intro | (simp only [Conds, rng, Int.toNat_natCast, List.length_append, bytesV_length] <;> omega) | (simp [Conds, rng] <;> omega) | (simp only [Conds, rng, wrap_u8, wrap_u16, wrap_u32, wrap_u64] <;> omega)) ?_) | (refine MC.la true (la_load1 hs rfl (by rfl)) rfl ?_) | (refine MC.part rfl rfl (fun h => absurd h (by first | decide | omega)) (fun _ => ?_)) | (refine MC.part rfl rfl (fun _ => ?_) (fun h => absurd (by first | decide | omega) h)) | (refine MC.cond rfl (fun h => absurd h (by first | decide | omega)) (fun _ => ?_)) | (refine MC.cond rfl (fun _ => ?_) (fun h => absurd (by first | decide | omega) h)))
      refine MC.pure (f := true) (po_nnil_some rfl) rfl ?_
      repeat (first | (refine MC.run1 tab 1000 rfl rfl (by first | exact True.intro | (simp only [Conds, rng, Int.toNat_natCast, List.length_append, bytesV_length] <;> omega) | (simp [Conds, rng] <;> omega) | (simp only [Conds, rng, wrap_u8, wrap_u16, wrap_u32, wrap_u64] <;> omega)) ?_) | (refine MC.la true (la_load1 hs rfl (by rfl)) rfl ?_) | (refine MC.part rfl rfl (fun h => absurd h (by first | decide | omega)) (fun _ => ?_)) | (refine MC.part rfl rfl (fun _ => ?_) (fun h => absurd (by first | decide | omega) h)) | (refine MC.cond rfl (fun h => absurd h (by first | decide | omega)) (fun _ => ?_)) | (refine MC.cond rfl (fun _ => ?_) (fun h => absurd (by first | decide | omega) h)))
      refine MC.ret rfl ?_
      exact .inr ⟨i, by omega, hal, hf, b, rfl, (hs.pickF 3 [0, 1] rfl rfl : Sat (_ :: _ :: F) w)⟩
  · obtain rfl : i = count := by omega
    have hw := jsync_spec (r := r) hs hok (by omega)
    repeat (first | (refine MC.run1 tab 1000 rfl rfl (by first | exact True.intro | (simp only [Conds, rng, Int.toNat_natCast, List.length_append, bytesV_length] <;> omega) | (simp [Conds, rng] <;> omega) | (simp only [Conds, rng, wrap_u8, wrap_u16, wrap_u32, wrap_u64] <;> omega)) ?_) | (refine MC.la true (la_load1 hs rfl (by rfl)) rfl ?_) | (refine MC.part rfl rfl (fun h => absurd h (by first | decide | omega)) (fun _ => ?_)) | (refine MC.part rfl rfl (fun _ => ?_) (fun h => absurd (by first | decide | omega) h)) | (refine MC.cond rfl (fun h => absurd h (by first | decide | omega)) (fun _ => ?_)) | (refine MC.cond rfl (fun _ => ?_) (fun h => absurd (by first | decide | omega) h)))
    refine MC.does false (does_call rfl (hw)) rfl ?_
    rintro _ w (⟨hf, rfl, hs⟩ | ⟨hf, b, rfl, hs⟩)
    · repeat (first | (refine MC.run1 tab 1000 rfl rfl (by first | exact True.intro | (simp only [Conds, rng, Int.toNat_natCast, List.length_append, bytesV_length] <;> omega) | (simp [Conds, rng] <;> omega) | (simp only [Conds, rng, wrap_u8, wrap_u16, wrap_u32, wrap_u64] <;> omega)) ?_) | (refine MC.la true (la_load1 hs rfl (by rfl)) rfl ?_) | (refine MC.part rfl rfl (fun h => absurd h (by first | decide | omega)) (fun _ => ?_)) | (refine MC.part rfl rfl (fun _ => ?_) (fun h => absurd (by first | decide | omega) h)) | (refine MC.cond rfl (fun h => absurd h (by first | decide | omega)) (fun _ => ?_)) | (refine MC.cond rfl (fun _ => ?_) (fun h => absurd (by first | decide | omega) h)))
      refine MC.ret rfl ?_
      refine .inl ⟨fun j hj => ?_, rfl, hs⟩
      rcases Nat.lt_or_ge j i with h | h
      · exact hal j h
      · obtain rfl : j = i := by omega
        exact hf
    · repeat (first | (refine MC.run1 tab 1000 rfl rfl (by first | exact True.intro | (simp only [Conds, rng, Int.toNat_natCast, List.length_append, bytesV_length] <;> omega) | (simp [Conds, rng] <;> omega) | (simp only [Conds, rng, wrap_u8, wrap_u16, wrap_u32, wrap_u64] <;> omega)) ?_) | (refine MC.la true (la_load1 hs rfl (by rfl)) rfl ?_) | (refine MC.part rfl rfl (fun h => absurd h (by first | decide | omega)) (fun _ => ?_)) | (refine MC.part rfl rfl (fun _ => ?_) (fun h => absurd (by first | decide | omega) h)) | (refine MC.cond rfl (fun h => absurd h (by first | decide | omega)) (fun _ => ?_)) | (refine MC.cond rfl (fun _ => ?_) (fun h => absurd (by first | decide | omega) h)))
      refine MC.ret rfl ?_
      exact .inr ⟨i, Nat.le_refl _, hal, hf, b, rfl, hs⟩
end Go.Proofs.YtoigogonccjagaaDoor
