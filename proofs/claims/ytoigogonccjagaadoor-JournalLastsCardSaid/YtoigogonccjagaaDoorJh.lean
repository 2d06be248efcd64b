/- Journals: Open. -/
import Derived.Test.YtoigogonccjagaaDoorJg
set_option linter.unusedVariables false
set_option linter.unusedSimpArgs false
namespace Go.Proofs.YtoigogonccjagaaDoor
open Go Go.Sl Go.Jn
attribute [local irreducible] LooksAt sumB sumF

def Dev.redN (D : Dev) : Nat → Dev
  | 0 => D
  | n + 1 => (D.redN n).red
theorem Dev.redN_S (D : Dev) : ∀ n, (D.redN n).S = D.S
  | 0 => rfl
  | n + 1 => Dev.redN_S D n
theorem Dev.redN_O (D : Dev) : ∀ n, (D.redN n).O = D.O
  | 0 => rfl
  | n + 1 => Dev.redN_O D n
theorem Dev.redN_fuse (D : Dev) : ∀ n, (D.redN n).fuse = D.fuse
  | 0 => rfl
  | n + 1 => Dev.redN_fuse D n
theorem Dev.redN_ok {D : Dev} (hD : D.ok) : ∀ n, (D.redN n).ok
  | 0 => hD
  | n + 1 => Dev.red_ok (Dev.redN_ok hD n)
theorem Dev.redN_get (D : Dev) (n k : Nat) : (D.redN n).get k = D.get k := by
  unfold Dev.get; rw [Dev.redN_S, Dev.redN_O]
/-- The bytes of sectors. -/
def Dev.run (D : Dev) (fr n : Nat) : Bs := (List.range n).flatMap fun i => D.get (fr + i)
theorem Dev.run_succ (D : Dev) (fr n : Nat) : D.run fr (n + 1) = D.run fr n ++ D.get (fr + n) := by
  simp [Dev.run, List.range_succ]
theorem Dev.run_length {D : Dev} (hD : D.ok) {fr : Nat} : ∀ n, fr + n ≤ D.S.length → (D.run fr n).length = n * 256
  | 0, _ => rfl
  | n + 1, h => by
    rw [Dev.run_succ, List.length_append, Dev.run_length hD n (by omega), get_length hD (by omega)]; omega
abbrev ojb (r p fr count epoch : Nat) (vX vR : Value) (used front : Nat) : Assn := blk r [ptr p, int ((fr : Nat) : Int), int ((count : Nat) : Int), int ((epoch : Nat) : Int), bool false, vX, int ((used : Nat) : Int), vR, .slice none 0 0, int ((front : Nat) : Int)] 30
/-- A journal that was opened. -/
def openP (F : List Assn) (D : Dev) (p fr count epoch : Nat) (v : Value) (w' : World) : Prop :=
  ∃ (r : Nat) (vX vR vAll : Value) (recs : List (Value × Bs)) (used : Nat), v = .tuple #[ptr r, int 0] ∧ recs.map (·.2) = parseR epoch 1 (D.run fr count) ∧ recs.length ≤ 1000000 ∧
    (∀ x ∈ recs, RdS (sl vAll 5 1 (D.run fr count).length (bytesV (D.run fr count)) :: F) 1 x.1 x.2.length (bytesV x.2) ∧ x.2.length ≤ 1000000) ∧
    Sat (ojb r p fr count epoch vX vR used (frontB (D.run fr count)) :: sl vR 22 1 recs.length (hd recs) :: dev p (D.redN count) :: sl vAll 5 1 (D.run fr count).length (bytesV (D.run fr count)) :: F) w'
theorem parseF_le (e : Nat) : ∀ (f k : Nat) (s : Bs), (parseF e f k s).length * 14 ≤ s.length
  | 0, _, _ => by simp [parseF]
  | f + 1, k, s => by
    simp only [parseF]
    cases hx : nextB s with
    | none => simp
    | some y =>
      obtain ⟨x, n, b⟩ := y
      have := (nextB_body hx).1
      dsimp only []
      split
      · have ih := parseF_le e f (k + 1) (s.drop (14 + b.length))
        rw [List.length_drop] at ih
        rw [List.length_cons]; omega
      · simp
theorem nextP_one {F0 F : List Assn} {l : Bs} {v : Value} {w : World} (h : nextP F0 F l v w) : ∃ (e n : Nat) (vb : Value) (ok : Bool) (b : Bs), v = .tuple #[int ((e : Nat) : Int), int ((n : Nat) : Int), vb, bool ok] ∧
    ((ok = false ∧ nextB l = none) ∨ (ok = true ∧ nextB l = some (e, n, b) ∧ RdS F0 1 vb b.length (bytesV b))) ∧ Sat F w := by
  unfold nextP at h
  cases hx : nextB l with
  | none => rw [hx] at h; exact ⟨0, 0, .slice none 0 0, false, [], h.1, .inl ⟨rfl, rfl⟩, h.2⟩
  | some y =>
    obtain ⟨e, n, b⟩ := y
    rw [hx] at h
    obtain ⟨vb, rfl, hr, hs⟩ := h
    exact ⟨e, n, vb, true, b, rfl, .inr ⟨rfl, rfl, hr⟩, hs⟩
set_option maxHeartbeats 8000000 in
theorem open_spec' {F : List Assn} {p fr count epoch : Nat} {D : Dev} {w : World} (hs : Sat (dev p D :: F) w) (hD : D.ok) (hO : D.O.length ≤ 50000) (hf : D.fuse ≠ 1) (hc1 : 1 ≤ count) (hk : fr + count ≤ D.S.length) (he1 : 1 ≤ epoch) (he2 : epoch ≤ 2147483647) :
    Ret Tryd.prog 15 [ptr p, int ((fr : Nat) : Int), int ((count : Nat) : Int), int ((epoch : Nat) : Int)] w (openP F D p fr count epoch) := by
  have hfew := hD.few
  have hsz := size_spec hs
  refine Ret.enter [(true, ptr p), (true, int ((fr : Nat) : Int)), (true, int ((count : Nat) : Int)), (true, int ((epoch : Nat) : Int))] _ Tryd.func15 rfl Tryd.ntmps15 rfl ?_
  repeat (first | (refine MC.run1 tab 1000 rfl rfl (by first | exact True.intro | (simp only [Conds, rng, Int.toNat_natCast, List.length_append, bytesV_length] <;> omega) | (simp [Conds, rng] <;> omega) | (simp only [Conds, rng, wrap_u8, wrap_u16, wrap_u32, wrap_u64] <;> omega)) ?_) | (refine MC.la true (la_load1 hs rfl (by rfl)) rfl ?_) | (refine MC.part rfl rfl (fun h => absurd h (by first | decide | omega)) (fun _ => ?_)) | (refine MC.part rfl rfl (fun _ => ?_) (fun h => absurd (by first | decide | omega) h)) | (refine MC.cond rfl (fun h => absurd h (by first | decide | omega)) (fun _ => ?_)) | (refine MC.cond rfl (fun _ => ?_) (fun h => absurd (by first | decide | omega) h)))
  refine MC.does true (does_call rfl (hsz)) rfl ?_
  rintro _ w ⟨rfl, rfl⟩
  repeat (first | (refine MC.run1 tab 1000 rfl rfl (by first | exact True.intro | (simp only [Conds, rng, Int.toNat_natCast, List.length_append, bytesV_length] <;> omega) | (simp [Conds, rng] <;> omega) | (simp only [Conds, rng, wrap_u8, wrap_u16, wrap_u32, wrap_u64] <;> omega)) ?_) | (refine MC.la true (la_load1 hs rfl (by rfl)) rfl ?_) | (refine MC.part rfl rfl (fun h => absurd h (by first | decide | omega)) (fun _ => ?_)) | (refine MC.part rfl rfl (fun _ => ?_) (fun h => absurd (by first | decide | omega) h)) | (refine MC.cond rfl (fun h => absurd h (by first | decide | omega)) (fun _ => ?_)) | (refine MC.cond rfl (fun _ => ?_) (fun h => absurd (by first | decide | omega) h)))
  refine MC.pure (f := true) (po_build (ls := [(0, [ptr p]), (1, [int ((fr : Nat) : Int)]), (2, [int ((count : Nat) : Int)]), (3, [int ((epoch : Nat) : Int)])]) (out := [ptr p, int ((fr : Nat) : Int), int ((count : Nat) : Int), int ((epoch : Nat) : Int), bool false, .slice none 0 0, int 0, .slice none 0 0, .slice none 0 0, int 0]) rfl rfl ⟨⟨_, rfl, by simp⟩, ⟨_, rfl, by simp⟩, ⟨_, rfl, by simp⟩, ⟨_, rfl, by simp⟩, trivial⟩ rfl) rfl ?_
  refine MC.does true (does_box hs rfl rfl) rfl ?_; rintro _ w ⟨r, rfl, hs⟩
  repeat (first | (refine MC.run1 tab 1000 rfl rfl (by first | exact True.intro | (simp only [Conds, rng, Int.toNat_natCast, List.length_append, bytesV_length] <;> omega) | (simp [Conds, rng] <;> omega) | (simp only [Conds, rng, wrap_u8, wrap_u16, wrap_u32, wrap_u64] <;> omega)) ?_) | (refine MC.la true (la_load1 hs rfl (by rfl)) rfl ?_) | (refine MC.part rfl rfl (fun h => absurd h (by first | decide | omega)) (fun _ => ?_)) | (refine MC.part rfl rfl (fun _ => ?_) (fun h => absurd (by first | decide | omega) h)) | (refine MC.cond rfl (fun h => absurd h (by first | decide | omega)) (fun _ => ?_)) | (refine MC.cond rfl (fun _ => ?_) (fun h => absurd (by first | decide | omega) h)))
  have hs1 : Sat (dev p (D.redN 0) :: ojb r p fr count epoch (.slice none 0 0) (.slice none 0 0) 0 0 :: sl (.slice none 0 0) 5 1 (D.run fr 0).length (bytesV (D.run fr 0)) :: F) w := (hs.sl_nil 5 1).pickF 3 [2, 1, 0] rfl rfl
  refine MC.loop (σ := Nat × Value) (fun x => [(0, true, ptr p), (1, true, int ((fr : Nat) : Int)), (2, true, int ((count : Nat) : Int)), (3, true, int ((epoch : Nat) : Int)), (11, true, ptr r), (12, true, x.2), (13, true, int ((fr + x.1 : Nat) : Int))])
    (fun x w => x.1 ≤ count ∧ Sat (dev p (D.redN x.1) :: ojb r p fr count epoch (.slice none 0 0) (.slice none 0 0) 0 0 :: sl x.2 5 1 (D.run fr x.1).length (bytesV (D.run fr x.1)) :: F) w) (fun x => count - x.1) (0, .slice none 0 0) (by repeat (first | exact trivial | refine ⟨rfl, ?_⟩)) ⟨Nat.zero_le _, hs1⟩ ?_
  rintro ⟨i, vAll⟩ w hx
  clear hs hs1
  replace hx : i ≤ count ∧ Sat (dev p (D.redN i) :: ojb r p fr count epoch (.slice none 0 0) (.slice none 0 0) 0 0 :: sl vAll 5 1 (D.run fr i).length (bytesV (D.run fr i)) :: F) w := hx
  obtain ⟨hi, hs⟩ := hx
  dsimp only []
  rcases Nat.lt_or_ge i count with hlt | hge
  · have hok := Dev.redN_ok hD i
    have hwr : (D.redN i).wrong ((fr + i : Nat) : Int) 256 = 0 := by
      unfold Dev.wrong
      rw [Dev.redN_S, Dev.redN_fuse, if_neg (by omega), if_neg (by decide), if_neg hf]
    have hrd := (read_spec (k := ((fr + i : Nat) : Int)) hs hok (by rw [Dev.redN_O]; omega)).mono fun v w' h => by rw [if_pos hwr] at h; exact h
    have hrl := Dev.run_length hD (fr := fr) i (by omega)
    have hgl := get_length hD (k := fr + i) (by omega)
    have hg : (D.redN i).get ((fr + i : Nat) : Int).toNat = D.get (fr + i) := by rw [Int.toNat_natCast, Dev.redN_get]
    rw [hg] at hrd
    clear hwr hg
    obtain ⟨R0, hR0⟩ : ∃ R0, D.run fr i = R0 := ⟨_, rfl⟩
    obtain ⟨S1, hS1⟩ : ∃ S1, D.get (fr + i) = S1 := ⟨_, rfl⟩
    rw [hR0] at hrl hrd hs
    rw [hS1] at hgl hrd
    repeat (first | (refine MC.run1 tab 1000 rfl rfl (by first | exact True.intro | (simp only [Conds, rng, Int.toNat_natCast, List.length_append, bytesV_length] <;> omega) | (simp [Conds, rng] <;> omega) | (simp only [Conds, rng, wrap_u8, wrap_u16, wrap_u32, wrap_u64] <;> omega)) ?_) | (refine MC.la true (la_load1 hs rfl (by rfl)) rfl ?_) | (refine MC.part rfl rfl (fun h => absurd h (by first | decide | omega)) (fun _ => ?_)) | (refine MC.part rfl rfl (fun _ => ?_) (fun h => absurd (by first | decide | omega) h)) | (refine MC.cond rfl (fun h => absurd h (by first | decide | omega)) (fun _ => ?_)) | (refine MC.cond rfl (fun _ => ?_) (fun h => absurd (by first | decide | omega) h)))
    refine MC.does true (does_call rfl (hrd)) rfl ?_
    rintro _ w ⟨vb, rfl, hs⟩
    obtain ⟨-, qb, cb, rfl, -⟩ := hs.sl_len
    repeat (first | (refine MC.run1 tab 1000 rfl rfl (by first | exact True.intro | (simp only [Conds, rng, Int.toNat_natCast, List.length_append, bytesV_length] <;> omega) | (simp [Conds, rng] <;> omega) | (simp only [Conds, rng, wrap_u8, wrap_u16, wrap_u32, wrap_u64] <;> omega)) ?_) | (refine MC.la true (la_load1 hs rfl (by rfl)) rfl ?_) | (refine MC.part rfl rfl (fun h => absurd h (by first | decide | omega)) (fun _ => ?_)) | (refine MC.part rfl rfl (fun _ => ?_) (fun h => absurd (by first | decide | omega) h)) | (refine MC.cond rfl (fun h => absurd h (by first | decide | omega)) (fun _ => ?_)) | (refine MC.cond rfl (fun _ => ?_) (fun h => absurd (by first | decide | omega) h)))
    have hrs := RdS.of_sl hs
    refine MC.does true (does_append hs rfl rfl (RdS.src hrs (bytesV_one S1)) ?h1 ?h2) rfl ?_
    case h1 => omega
    case h2 => omega
    intro va w hs
    repeat (first | (refine MC.run1 tab 1000 rfl rfl (by first | exact True.intro | (simp only [Conds, rng, Int.toNat_natCast, List.length_append, bytesV_length] <;> omega) | (simp [Conds, rng] <;> omega) | (simp only [Conds, rng, wrap_u8, wrap_u16, wrap_u32, wrap_u64] <;> omega)) ?_) | (refine MC.la true (la_load1 hs rfl (by rfl)) rfl ?_) | (refine MC.part rfl rfl (fun h => absurd h (by first | decide | omega)) (fun _ => ?_)) | (refine MC.part rfl rfl (fun _ => ?_) (fun h => absurd (by first | decide | omega) h)) | (refine MC.cond rfl (fun h => absurd h (by first | decide | omega)) (fun _ => ?_)) | (refine MC.cond rfl (fun _ => ?_) (fun h => absurd (by first | decide | omega) h)))
    have e1 : ((fr + i : Nat) : Int) + 1 = ((fr + (i + 1) : Nat) : Int) := by omega
    rw [e1]
    refine MC.again (i + 1, va) (by repeat (first | exact trivial | refine ⟨rfl, ?_⟩)) ⟨hlt, ?_⟩ (by show count - (i + 1) < count - i; omega)
    show Sat (dev p (D.redN (i + 1)) :: ojb r p fr count epoch (.slice none 0 0) (.slice none 0 0) 0 0 :: sl va _ 1 (D.run fr (i + 1)).length (bytesV (D.run fr (i + 1))) :: F) w
    rw [Dev.run_succ, hR0, hS1, List.length_append, hgl, bytesV_append]
    exact hs.tail
  · obtain rfl : i = count := by omega
    have hrl := Dev.run_length hD (fr := fr) i (by omega)
    unfold openP
    obtain ⟨ALL, hALL⟩ : ∃ ALL, D.run fr i = ALL := ⟨_, rfl⟩
    rw [hALL] at hs hrl
    obtain ⟨D', hD'⟩ : ∃ D', D.redN i = D' := ⟨_, rfl⟩
    rw [hD'] at hs
    have hs : Sat (ojb r p fr i epoch (.slice none 0 0) (.slice none 0 0) 0 0 :: sl (.slice none 0 0) 22 1 0 [] :: dev p D' :: sl vAll 5 1 ALL.length (bytesV ALL) :: F) w := (hs.sl_nil 22 1).pickF 4 [2, 0, 1, 3] rfl rfl
    obtain ⟨_, qA, cA, rfl, hcA⟩ := (hs.pull 3 rfl).sl_len
    obtain ⟨L1, hL1⟩ : ∃ L1, sl (.slice qA ALL.length cA) 5 1 ALL.length (bytesV ALL) :: F = L1 := ⟨_, rfl⟩
    have hxA : RdS L1 1 (.slice qA ALL.length cA) ALL.length (bytesV ALL) := by rw [← hL1]; exact RdS.of_sl hs.tail.tail.tail
    rw [hL1] at hs
    have hnx := (next_spec (F0 := L1) hs rfl hxA (by omega)).mono fun v w' h => nextP_one h
    repeat (first | (refine MC.run1 tab 1000 rfl rfl (by first | exact True.intro | (simp only [Conds, rng, Int.toNat_natCast, List.length_append, bytesV_length] <;> omega) | (simp [Conds, rng] <;> omega) | (simp only [Conds, rng, wrap_u8, wrap_u16, wrap_u32, wrap_u64] <;> omega)) ?_) | (refine MC.la true (la_load1 hs rfl (by rfl)) rfl ?_) | (refine MC.part rfl rfl (fun h => absurd h (by first | decide | omega)) (fun _ => ?_)) | (refine MC.part rfl rfl (fun _ => ?_) (fun h => absurd (by first | decide | omega) h)) | (refine MC.cond rfl (fun h => absurd h (by first | decide | omega)) (fun _ => ?_)) | (refine MC.cond rfl (fun _ => ?_) (fun h => absurd (by first | decide | omega) h)))
    refine MC.does true (does_call rfl (hnx)) rfl ?_
    rintro _ w ⟨e1, n1, vb1, ok1, b1, rfl, hcase, hs⟩
    obtain ⟨FR, hFR⟩ : ∃ FR, frontB ALL = FR := ⟨_, rfl⟩
    have hfront : FR = if ok1 = true ∧ n1 = 1 then e1 else 0 := by
      rw [← hFR]; unfold frontB
      rcases hcase with ⟨rfl, h⟩ | ⟨rfl, h, _⟩
      · rw [h]; simp
      · rw [h]; simp
    refine MC.run1 tab 10 rfl rfl (by first | exact True.intro | (simp only [Conds, rng, Int.toNat_natCast, List.length_append, bytesV_length] <;> omega) | (simp [Conds, rng] <;> omega) | (simp only [Conds, rng, wrap_u8, wrap_u16, wrap_u32, wrap_u64] <;> omega)) ?_
    refine MC.cutAt 1 [(0, true, ptr p), (3, true, int ((epoch : Nat) : Int)), (11, true, ptr r), (12, true, .slice qA ALL.length cA)] (fun w => Sat (ojb r p fr i epoch (.slice none 0 0) (.slice none 0 0) 0 FR :: sl (.slice none 0 0) 22 1 0 [] :: dev p D' :: L1) w) rfl (fun w hs => ?_) ?_
    · (try dsimp only [List.drop_succ_cons, List.drop_zero, List.take_succ_cons, List.take_zero, List.cons_append, List.nil_append])
      · repeat (first | (refine MC.run1 tab 1000 rfl rfl (by first | exact True.intro | (simp only [Conds, rng, Int.toNat_natCast, List.length_append, bytesV_length] <;> omega) | (simp [Conds, rng] <;> omega) | (simp only [Conds, rng, wrap_u8, wrap_u16, wrap_u32, wrap_u64] <;> omega)) ?_) | (refine MC.la true (la_load1 hs rfl (by rfl)) rfl ?_) | (refine MC.part rfl rfl (fun h => absurd h (by first | decide | omega)) (fun _ => ?_)) | (refine MC.part rfl rfl (fun _ => ?_) (fun h => absurd (by first | decide | omega) h)) | (refine MC.cond rfl (fun h => absurd h (by first | decide | omega)) (fun _ => ?_)) | (refine MC.cond rfl (fun _ => ?_) (fun h => absurd (by first | decide | omega) h)))
        refine MC.loop (σ := Nat × Value × List (Value × Bs)) (fun x => [(0, true, ptr p), (3, true, int ((epoch : Nat) : Int)), (11, true, ptr r), (12, true, .slice qA ALL.length cA)])
          (fun x w => x.1 ≤ ALL.length ∧ x.2.2.length * 14 ≤ x.1 ∧ parseR epoch 1 ALL = x.2.2.map (·.2) ++ parseR epoch (x.2.2.length + 1) (ALL.drop x.1) ∧ (∀ y ∈ x.2.2, RdS L1 1 y.1 y.2.length (bytesV y.2) ∧ y.2.length ≤ 1000000) ∧
            Sat (ojb r p fr i epoch (.slice none 0 0) x.2.1 x.1 FR :: sl x.2.1 22 1 x.2.2.length (hd x.2.2) :: dev p D' :: L1) w) (fun x => ALL.length - x.1) (0, .slice none 0 0, []) (by repeat (first | exact trivial | refine ⟨rfl, ?_⟩))
          ⟨Nat.zero_le _, Nat.zero_le _, by rw [List.drop_zero]; rfl, fun y hy => absurd hy (by simp), hs⟩ ?_
        rintro ⟨used, vR, recs⟩ w hx
        clear hs
        replace hx : used ≤ ALL.length ∧ recs.length * 14 ≤ used ∧ parseR epoch 1 ALL = recs.map (·.2) ++ parseR epoch (recs.length + 1) (ALL.drop used) ∧ (∀ y ∈ recs, RdS L1 1 y.1 y.2.length (bytesV y.2) ∧ y.2.length ≤ 1000000) ∧
          Sat (ojb r p fr i epoch (.slice none 0 0) vR used FR :: sl vR 22 1 recs.length (hd recs) :: dev p D' :: L1) w := hx
        obtain ⟨hus, hru, hpar, hrdx, hs⟩ := hx
        have hALb : ALL.length ≤ 2097152 := by omega
        have hrm : recs.length ≤ 1000000 := by omega
        try clear hALb
        obtain ⟨-, qR, cR, rfl, -⟩ := (hs.pull 1 rfl).sl_len
        dsimp only []
        have hsub := hxA.subLo (a := used) hus
        have hdl : (ALL.drop used).length = ALL.length - used := List.length_drop
        have hnx := (next_spec (F0 := L1) hs hdl.symm hsub (by omega)).mono fun v w' h => nextP_one h
        repeat (first | (refine MC.run1 tab 1000 rfl rfl (by first | exact True.intro | (simp only [Conds, rng, Int.toNat_natCast, List.length_append, bytesV_length] <;> omega) | (simp [Conds, rng] <;> omega) | (simp only [Conds, rng, wrap_u8, wrap_u16, wrap_u32, wrap_u64] <;> omega)) ?_) | (refine MC.la true (la_load1 hs rfl (by rfl)) rfl ?_) | (refine MC.part rfl rfl (fun h => absurd h (by first | decide | omega)) (fun _ => ?_)) | (refine MC.part rfl rfl (fun _ => ?_) (fun h => absurd (by first | decide | omega) h)) | (refine MC.cond rfl (fun h => absurd h (by first | decide | omega)) (fun _ => ?_)) | (refine MC.cond rfl (fun _ => ?_) (fun h => absurd (by first | decide | omega) h)))
        refine MC.pure (f := true) (po_slice_lo (a := used) rfl rfl hus) rfl ?_
        repeat (first | (refine MC.run1 tab 1000 rfl rfl (by first | exact True.intro | (simp only [Conds, rng, Int.toNat_natCast, List.length_append, bytesV_length] <;> omega) | (simp [Conds, rng] <;> omega) | (simp only [Conds, rng, wrap_u8, wrap_u16, wrap_u32, wrap_u64] <;> omega)) ?_) | (refine MC.la true (la_load1 hs rfl (by rfl)) rfl ?_) | (refine MC.part rfl rfl (fun h => absurd h (by first | decide | omega)) (fun _ => ?_)) | (refine MC.part rfl rfl (fun _ => ?_) (fun h => absurd (by first | decide | omega) h)) | (refine MC.cond rfl (fun h => absurd h (by first | decide | omega)) (fun _ => ?_)) | (refine MC.cond rfl (fun _ => ?_) (fun h => absurd (by first | decide | omega) h)))
        refine MC.does true (does_call rfl (hnx)) rfl ?_
        rintro _ w ⟨e2, n2, vb, ok2, b, rfl, ⟨rfl, hnone⟩ | ⟨rfl, hsome, hrb⟩, hs⟩
        · have hstop : Stops epoch (recs.length + 1) (ALL.drop used) := fun c hc => by rw [hnone] at hc; cases hc
          repeat (first | (refine MC.run1 tab 1000 rfl rfl (by first | exact True.intro | (simp only [Conds, rng, Int.toNat_natCast, List.length_append, bytesV_length] <;> omega) | (simp [Conds, rng] <;> omega) | (simp only [Conds, rng, wrap_u8, wrap_u16, wrap_u32, wrap_u64] <;> omega)) ?_) | (refine MC.la true (la_load1 hs rfl (by rfl)) rfl ?_) | (refine MC.part rfl rfl (fun h => absurd h (by first | decide | omega)) (fun _ => ?_)) | (refine MC.part rfl rfl (fun _ => ?_) (fun h => absurd (by first | decide | omega) h)) | (refine MC.cond rfl (fun h => absurd h (by first | decide | omega)) (fun _ => ?_)) | (refine MC.cond rfl (fun _ => ?_) (fun h => absurd (by first | decide | omega) h)))
          refine MC.draw hs [0,1,2,3,4,5,6,7,8,9,10,11,12,13] (by rfl) ?_; intro w hs
          repeat (first | (refine MC.run1 tab 1000 rfl rfl (by first | exact True.intro | (simp only [Conds, rng, Int.toNat_natCast, List.length_append, bytesV_length] <;> omega) | (simp [Conds, rng] <;> omega) | (simp only [Conds, rng, wrap_u8, wrap_u16, wrap_u32, wrap_u64] <;> omega)) ?_) | (refine MC.laD true (la_load1 hs rfl (by rfl)) rfl ?_) | (refine MC.part rfl rfl (fun h => absurd h (by first | decide | omega)) (fun _ => ?_)) | (refine MC.part rfl rfl (fun _ => ?_) (fun h => absurd (by first | decide | omega) h)) | (refine MC.cond rfl (fun h => absurd h (by first | decide | omega)) (fun _ => ?_)) | (refine MC.cond rfl (fun _ => ?_) (fun h => absurd (by first | decide | omega) h)))
          refine MC.pure (f := true) (po_slice3_hi (b := used) (m := used) rfl rfl rfl (Nat.le_refl _) (by omega)) rfl ?_
          repeat (first | (refine MC.run1 tab 1000 rfl rfl (by first | exact True.intro | (simp only [Conds, rng, Int.toNat_natCast, List.length_append, bytesV_length] <;> omega) | (simp [Conds, rng] <;> omega) | (simp only [Conds, rng, wrap_u8, wrap_u16, wrap_u32, wrap_u64] <;> omega)) ?_) | (refine MC.laD true (la_load1 hs rfl (by rfl)) rfl ?_) | (refine MC.part rfl rfl (fun h => absurd h (by first | decide | omega)) (fun _ => ?_)) | (refine MC.part rfl rfl (fun _ => ?_) (fun h => absurd (by first | decide | omega) h)) | (refine MC.cond rfl (fun h => absurd h (by first | decide | omega)) (fun _ => ?_)) | (refine MC.cond rfl (fun _ => ?_) (fun h => absurd (by first | decide | omega) h)))
          refine MC.doesD true (does_store1 hs rfl rfl rfl (by first | decide | (simp; done) | (simp; omega))) rfl rfl rfl rfl ?_; intro _ w hs
          repeat (first | (refine MC.run1 tab 1000 rfl rfl (by first | exact True.intro | (simp only [Conds, rng, Int.toNat_natCast, List.length_append, bytesV_length] <;> omega) | (simp [Conds, rng] <;> omega) | (simp only [Conds, rng, wrap_u8, wrap_u16, wrap_u32, wrap_u64] <;> omega)) ?_) | (refine MC.laD true (la_load1 hs rfl (by rfl)) rfl ?_) | (refine MC.part rfl rfl (fun h => absurd h (by first | decide | omega)) (fun _ => ?_)) | (refine MC.part rfl rfl (fun _ => ?_) (fun h => absurd (by first | decide | omega) h)) | (refine MC.cond rfl (fun h => absurd h (by first | decide | omega)) (fun _ => ?_)) | (refine MC.cond rfl (fun _ => ?_) (fun h => absurd (by first | decide | omega) h)))
          repeat (first | (refine MC.run1 tab 1000 rfl rfl (by first | exact True.intro | (simp only [Conds, rng, Int.toNat_natCast, List.length_append, bytesV_length] <;> omega) | (simp [Conds, rng] <;> omega) | (simp only [Conds, rng, wrap_u8, wrap_u16, wrap_u32, wrap_u64] <;> omega)) ?_) | (refine MC.la true (la_load1 hs rfl (by rfl)) rfl ?_) | (refine MC.part rfl rfl (fun h => absurd h (by first | decide | omega)) (fun _ => ?_)) | (refine MC.part rfl rfl (fun _ => ?_) (fun h => absurd (by first | decide | omega) h)) | (refine MC.cond rfl (fun h => absurd h (by first | decide | omega)) (fun _ => ?_)) | (refine MC.cond rfl (fun _ => ?_) (fun h => absurd (by first | decide | omega) h)))
          refine MC.ret rfl ?_
          refine ⟨r, .slice qA used used, .slice qR recs.length cR, .slice qA ALL.length cA, recs, used, rfl, ?_, hrm, ?_, ?_⟩
          · rw [hALL, hpar, parseR_stop hstop, List.append_nil]
          · rw [hALL, hL1]; exact hrdx
          · rw [hALL, hD', hFR, hL1]; exact hs
        · have hbd := nextB_body hsome
          by_cases hep : e2 = epoch
          · by_cases hnn : n2 = recs.length + 1
            · obtain ⟨qb, cb, rfl, hcb, -⟩ := hrb.shape
              subst hep; subst hnn
              repeat (first | (refine MC.run1 tab 1000 rfl rfl (by first | exact True.intro | (simp only [Conds, rng, Int.toNat_natCast, List.length_append, bytesV_length] <;> omega) | (simp [Conds, rng] <;> omega) | (simp only [Conds, rng, wrap_u8, wrap_u16, wrap_u32, wrap_u64] <;> omega)) ?_) | (refine MC.la true (la_load1 hs rfl (by rfl)) rfl ?_) | (refine MC.part rfl rfl (fun h => absurd h (by first | decide | omega)) (fun _ => ?_)) | (refine MC.part rfl rfl (fun _ => ?_) (fun h => absurd (by first | decide | omega) h)) | (refine MC.cond rfl (fun h => absurd h (by first | decide | omega)) (fun _ => ?_)) | (refine MC.cond rfl (fun _ => ?_) (fun h => absurd (by first | decide | omega) h)))
              refine MC.does true (does_buildL hs rfl rfl rfl (by first | (intro u hu; simp only [List.mem_cons, List.not_mem_nil, or_false] at hu; rcases hu with rfl | rfl | rfl | rfl | rfl | rfl | rfl | rfl <;> rfl) | (intro u hu; simp only [List.mem_cons, List.not_mem_nil, or_false] at hu; rcases hu with rfl | rfl | rfl | rfl <;> rfl) | (intro u hu; simp only [List.mem_cons, List.not_mem_nil, or_false] at hu; rcases hu with rfl | rfl <;> rfl) | (intro u hu; simp only [List.mem_cons, List.not_mem_nil, or_false] at hu; subst hu; rfl)) rfl) rfl ?_; rintro _ w ⟨b1, rfl, hs⟩
              refine MC.does true (does_append hs rfl rfl (src_at rfl (by first | (intro u hu; simp only [List.mem_cons, List.not_mem_nil, or_false] at hu; rcases hu with rfl | rfl | rfl | rfl | rfl | rfl | rfl | rfl <;> rfl) | (intro u hu; simp only [List.mem_cons, List.not_mem_nil, or_false] at hu; rcases hu with rfl | rfl | rfl | rfl <;> rfl) | (intro u hu; simp only [List.mem_cons, List.not_mem_nil, or_false] at hu; rcases hu with rfl | rfl <;> rfl) | (intro u hu; simp only [List.mem_cons, List.not_mem_nil, or_false] at hu; subst hu; rfl))) (by omega) (by omega)) rfl ?_
              intro va w hs
              replace hs : Sat (ojb r p fr i e2 (.slice none 0 0) (.slice qR recs.length cR) used FR :: sl va 22 1 (recs.length + 1) (hd recs ++ [.slice qb b.length cb]) :: dev p D' :: L1) w := hs.tail
              obtain ⟨-, qv, cv, rfl, -⟩ := (hs.pull 1 rfl).sl_len
              repeat (first | (refine MC.run1 tab 1000 rfl rfl (by first | exact True.intro | (simp only [Conds, rng, Int.toNat_natCast, List.length_append, bytesV_length] <;> omega) | (simp [Conds, rng] <;> omega) | (simp only [Conds, rng, wrap_u8, wrap_u16, wrap_u32, wrap_u64] <;> omega)) ?_) | (refine MC.la true (la_load1 hs rfl (by rfl)) rfl ?_) | (refine MC.part rfl rfl (fun h => absurd h (by first | decide | omega)) (fun _ => ?_)) | (refine MC.part rfl rfl (fun _ => ?_) (fun h => absurd (by first | decide | omega) h)) | (refine MC.cond rfl (fun h => absurd h (by first | decide | omega)) (fun _ => ?_)) | (refine MC.cond rfl (fun _ => ?_) (fun h => absurd (by first | decide | omega) h)))
              refine MC.does true (does_store1 hs rfl rfl rfl (by first | decide | (simp; done) | (simp; omega))) rfl ?_; intro _ w hs
              repeat (first | (refine MC.run1 tab 1000 rfl rfl (by first | exact True.intro | (simp only [Conds, rng, Int.toNat_natCast, List.length_append, bytesV_length] <;> omega) | (simp [Conds, rng] <;> omega) | (simp only [Conds, rng, wrap_u8, wrap_u16, wrap_u32, wrap_u64] <;> omega)) ?_) | (refine MC.la true (la_load1 hs rfl (by rfl)) rfl ?_) | (refine MC.part rfl rfl (fun h => absurd h (by first | decide | omega)) (fun _ => ?_)) | (refine MC.part rfl rfl (fun _ => ?_) (fun h => absurd (by first | decide | omega) h)) | (refine MC.cond rfl (fun h => absurd h (by first | decide | omega)) (fun _ => ?_)) | (refine MC.cond rfl (fun _ => ?_) (fun h => absurd (by first | decide | omega) h)))
              refine MC.does true (does_store1 hs rfl rfl rfl (by first | decide | (simp; done) | (simp; omega))) rfl ?_; intro _ w hs
              repeat (first | (refine MC.run1 tab 1000 rfl rfl (by first | exact True.intro | (simp only [Conds, rng, Int.toNat_natCast, List.length_append, bytesV_length] <;> omega) | (simp [Conds, rng] <;> omega) | (simp only [Conds, rng, wrap_u8, wrap_u16, wrap_u32, wrap_u64] <;> omega)) ?_) | (refine MC.la true (la_load1 hs rfl (by rfl)) rfl ?_) | (refine MC.part rfl rfl (fun h => absurd h (by first | decide | omega)) (fun _ => ?_)) | (refine MC.part rfl rfl (fun _ => ?_) (fun h => absurd (by first | decide | omega) h)) | (refine MC.cond rfl (fun h => absurd h (by first | decide | omega)) (fun _ => ?_)) | (refine MC.cond rfl (fun _ => ?_) (fun h => absurd (by first | decide | omega) h)))
              refine MC.again (used + (14 + b.length), .slice qv (recs.length + 1) cv, recs ++ [((.slice qb b.length cb : Value), b)]) (by repeat (first | exact trivial | refine ⟨rfl, ?_⟩)) ⟨by show used + (14 + b.length) ≤ ALL.length; omega, ?_, ?_, ?_, ?_⟩ (by show ALL.length - (used + (14 + b.length)) < ALL.length - used; omega)
              · show (recs ++ [((.slice qb b.length cb : Value), b)]).length * 14 ≤ used + (14 + b.length)
                rw [List.length_append]; simp; omega
              · show parseR e2 1 ALL = (recs ++ [((.slice qb b.length cb : Value), b)]).map (fun x => x.2) ++ parseR e2 ((recs ++ [((.slice qb b.length cb : Value), b)]).length + 1) (ALL.drop (used + (14 + b.length)))
                rw [hpar, parseR_step hsome, List.drop_drop, List.map_append, List.length_append, List.append_assoc]; rfl
              · intro y hy
                rcases List.mem_append.1 hy with h | h
                · exact hrdx y h
                · have : y = ((.slice qb b.length cb : Value), b) := by simpa using h
                  subst this
                  exact ⟨hrb, by show b.length ≤ 1000000; omega⟩
              · have hs : Sat (ojb r p fr i e2 (.slice none 0 0) (.slice qv (recs.length + 1) cv) (used + (14 + b.length)) FR :: sl (.slice qv (recs.length + 1) cv) 22 1 (recs.length + 1) (hd recs ++ [.slice qb b.length cb]) :: dev p D' :: L1) w := hs
                show Sat (ojb r p fr i e2 (.slice none 0 0) (.slice qv (recs.length + 1) cv) (used + (14 + b.length)) FR :: sl (.slice qv (recs.length + 1) cv) _ 1 (recs ++ [((.slice qb b.length cb : Value), b)]).length (hd (recs ++ [((.slice qb b.length cb : Value), b)])) :: dev p D' :: L1) w
                have e3 : (recs ++ [((.slice qb b.length cb : Value), b)]).length = recs.length + 1 := by simp
                rw [e3, hd_app]
                exact hs
            · have hstop : Stops epoch (recs.length + 1) (ALL.drop used) := fun c hc => by
                rw [hsome] at hc; injection hc with hc; injection hc with h1 h2; injection h2 with h2 _; exact hnn h2
              repeat (first | (refine MC.run1 tab 1000 rfl rfl (by first | exact True.intro | (simp only [Conds, rng, Int.toNat_natCast, List.length_append, bytesV_length] <;> omega) | (simp [Conds, rng] <;> omega) | (simp only [Conds, rng, wrap_u8, wrap_u16, wrap_u32, wrap_u64] <;> omega)) ?_) | (refine MC.la true (la_load1 hs rfl (by rfl)) rfl ?_) | (refine MC.part rfl rfl (fun h => absurd h (by first | decide | omega)) (fun _ => ?_)) | (refine MC.part rfl rfl (fun _ => ?_) (fun h => absurd (by first | decide | omega) h)) | (refine MC.cond rfl (fun h => absurd h (by first | decide | omega)) (fun _ => ?_)) | (refine MC.cond rfl (fun _ => ?_) (fun h => absurd (by first | decide | omega) h)))
              refine MC.draw hs [0,1,2,3,4,5,6,7,8,9,10,11,12,13] (by rfl) ?_; intro w hs
              repeat (first | (refine MC.run1 tab 1000 rfl rfl (by first | exact True.intro | (simp only [Conds, rng, Int.toNat_natCast, List.length_append, bytesV_length] <;> omega) | (simp [Conds, rng] <;> omega) | (simp only [Conds, rng, wrap_u8, wrap_u16, wrap_u32, wrap_u64] <;> omega)) ?_) | (refine MC.laD true (la_load1 hs rfl (by rfl)) rfl ?_) | (refine MC.part rfl rfl (fun h => absurd h (by first | decide | omega)) (fun _ => ?_)) | (refine MC.part rfl rfl (fun _ => ?_) (fun h => absurd (by first | decide | omega) h)) | (refine MC.cond rfl (fun h => absurd h (by first | decide | omega)) (fun _ => ?_)) | (refine MC.cond rfl (fun _ => ?_) (fun h => absurd (by first | decide | omega) h)))
              refine MC.pure (f := true) (po_slice3_hi (b := used) (m := used) rfl rfl rfl (Nat.le_refl _) (by omega)) rfl ?_
              repeat (first | (refine MC.run1 tab 1000 rfl rfl (by first | exact True.intro | (simp only [Conds, rng, Int.toNat_natCast, List.length_append, bytesV_length] <;> omega) | (simp [Conds, rng] <;> omega) | (simp only [Conds, rng, wrap_u8, wrap_u16, wrap_u32, wrap_u64] <;> omega)) ?_) | (refine MC.laD true (la_load1 hs rfl (by rfl)) rfl ?_) | (refine MC.part rfl rfl (fun h => absurd h (by first | decide | omega)) (fun _ => ?_)) | (refine MC.part rfl rfl (fun _ => ?_) (fun h => absurd (by first | decide | omega) h)) | (refine MC.cond rfl (fun h => absurd h (by first | decide | omega)) (fun _ => ?_)) | (refine MC.cond rfl (fun _ => ?_) (fun h => absurd (by first | decide | omega) h)))
              refine MC.doesD true (does_store1 hs rfl rfl rfl (by first | decide | (simp; done) | (simp; omega))) rfl rfl rfl rfl ?_; intro _ w hs
              repeat (first | (refine MC.run1 tab 1000 rfl rfl (by first | exact True.intro | (simp only [Conds, rng, Int.toNat_natCast, List.length_append, bytesV_length] <;> omega) | (simp [Conds, rng] <;> omega) | (simp only [Conds, rng, wrap_u8, wrap_u16, wrap_u32, wrap_u64] <;> omega)) ?_) | (refine MC.laD true (la_load1 hs rfl (by rfl)) rfl ?_) | (refine MC.part rfl rfl (fun h => absurd h (by first | decide | omega)) (fun _ => ?_)) | (refine MC.part rfl rfl (fun _ => ?_) (fun h => absurd (by first | decide | omega) h)) | (refine MC.cond rfl (fun h => absurd h (by first | decide | omega)) (fun _ => ?_)) | (refine MC.cond rfl (fun _ => ?_) (fun h => absurd (by first | decide | omega) h)))
              repeat (first | (refine MC.run1 tab 1000 rfl rfl (by first | exact True.intro | (simp only [Conds, rng, Int.toNat_natCast, List.length_append, bytesV_length] <;> omega) | (simp [Conds, rng] <;> omega) | (simp only [Conds, rng, wrap_u8, wrap_u16, wrap_u32, wrap_u64] <;> omega)) ?_) | (refine MC.la true (la_load1 hs rfl (by rfl)) rfl ?_) | (refine MC.part rfl rfl (fun h => absurd h (by first | decide | omega)) (fun _ => ?_)) | (refine MC.part rfl rfl (fun _ => ?_) (fun h => absurd (by first | decide | omega) h)) | (refine MC.cond rfl (fun h => absurd h (by first | decide | omega)) (fun _ => ?_)) | (refine MC.cond rfl (fun _ => ?_) (fun h => absurd (by first | decide | omega) h)))
              refine MC.ret rfl ?_
              refine ⟨r, .slice qA used used, .slice qR recs.length cR, .slice qA ALL.length cA, recs, used, rfl, ?_, hrm, ?_, ?_⟩
              · rw [hALL, hpar, parseR_stop hstop, List.append_nil]
              · rw [hALL, hL1]; exact hrdx
              · rw [hALL, hD', hFR, hL1]; exact hs
          · have hstop : Stops epoch (recs.length + 1) (ALL.drop used) := fun c hc => by
              rw [hsome] at hc; injection hc with hc; injection hc with h1 _; exact hep h1
            repeat (first | (refine MC.run1 tab 1000 rfl rfl (by first | exact True.intro | (simp only [Conds, rng, Int.toNat_natCast, List.length_append, bytesV_length] <;> omega) | (simp [Conds, rng] <;> omega) | (simp only [Conds, rng, wrap_u8, wrap_u16, wrap_u32, wrap_u64] <;> omega)) ?_) | (refine MC.la true (la_load1 hs rfl (by rfl)) rfl ?_) | (refine MC.part rfl rfl (fun h => absurd h (by first | decide | omega)) (fun _ => ?_)) | (refine MC.part rfl rfl (fun _ => ?_) (fun h => absurd (by first | decide | omega) h)) | (refine MC.cond rfl (fun h => absurd h (by first | decide | omega)) (fun _ => ?_)) | (refine MC.cond rfl (fun _ => ?_) (fun h => absurd (by first | decide | omega) h)))
            refine MC.draw hs [0,1,2,3,4,5,6,7,8,9,10,11,12,13] (by rfl) ?_; intro w hs
            repeat (first | (refine MC.run1 tab 1000 rfl rfl (by first | exact True.intro | (simp only [Conds, rng, Int.toNat_natCast, List.length_append, bytesV_length] <;> omega) | (simp [Conds, rng] <;> omega) | (simp only [Conds, rng, wrap_u8, wrap_u16, wrap_u32, wrap_u64] <;> omega)) ?_) | (refine MC.laD true (la_load1 hs rfl (by rfl)) rfl ?_) | (refine MC.part rfl rfl (fun h => absurd h (by first | decide | omega)) (fun _ => ?_)) | (refine MC.part rfl rfl (fun _ => ?_) (fun h => absurd (by first | decide | omega) h)) | (refine MC.cond rfl (fun h => absurd h (by first | decide | omega)) (fun _ => ?_)) | (refine MC.cond rfl (fun _ => ?_) (fun h => absurd (by first | decide | omega) h)))
            refine MC.pure (f := true) (po_slice3_hi (b := used) (m := used) rfl rfl rfl (Nat.le_refl _) (by omega)) rfl ?_
            repeat (first | (refine MC.run1 tab 1000 rfl rfl (by first | exact True.intro | (simp only [Conds, rng, Int.toNat_natCast, List.length_append, bytesV_length] <;> omega) | (simp [Conds, rng] <;> omega) | (simp only [Conds, rng, wrap_u8, wrap_u16, wrap_u32, wrap_u64] <;> omega)) ?_) | (refine MC.laD true (la_load1 hs rfl (by rfl)) rfl ?_) | (refine MC.part rfl rfl (fun h => absurd h (by first | decide | omega)) (fun _ => ?_)) | (refine MC.part rfl rfl (fun _ => ?_) (fun h => absurd (by first | decide | omega) h)) | (refine MC.cond rfl (fun h => absurd h (by first | decide | omega)) (fun _ => ?_)) | (refine MC.cond rfl (fun _ => ?_) (fun h => absurd (by first | decide | omega) h)))
            refine MC.doesD true (does_store1 hs rfl rfl rfl (by first | decide | (simp; done) | (simp; omega))) rfl rfl rfl rfl ?_; intro _ w hs
            repeat (first | (refine MC.run1 tab 1000 rfl rfl (by first | exact True.intro | (simp only [Conds, rng, Int.toNat_natCast, List.length_append, bytesV_length] <;> omega) | (simp [Conds, rng] <;> omega) | (simp only [Conds, rng, wrap_u8, wrap_u16, wrap_u32, wrap_u64] <;> omega)) ?_) | (refine MC.laD true (la_load1 hs rfl (by rfl)) rfl ?_) | (refine MC.part rfl rfl (fun h => absurd h (by first | decide | omega)) (fun _ => ?_)) | (refine MC.part rfl rfl (fun _ => ?_) (fun h => absurd (by first | decide | omega) h)) | (refine MC.cond rfl (fun h => absurd h (by first | decide | omega)) (fun _ => ?_)) | (refine MC.cond rfl (fun _ => ?_) (fun h => absurd (by first | decide | omega) h)))
            repeat (first | (refine MC.run1 tab 1000 rfl rfl (by first | exact True.intro | (simp only [Conds, rng, Int.toNat_natCast, List.length_append, bytesV_length] <;> omega) | (simp [Conds, rng] <;> omega) | (simp only [Conds, rng, wrap_u8, wrap_u16, wrap_u32, wrap_u64] <;> omega)) ?_) | (refine MC.la true (la_load1 hs rfl (by rfl)) rfl ?_) | (refine MC.part rfl rfl (fun h => absurd h (by first | decide | omega)) (fun _ => ?_)) | (refine MC.part rfl rfl (fun _ => ?_) (fun h => absurd (by first | decide | omega) h)) | (refine MC.cond rfl (fun h => absurd h (by first | decide | omega)) (fun _ => ?_)) | (refine MC.cond rfl (fun _ => ?_) (fun h => absurd (by first | decide | omega) h)))
            refine MC.ret rfl ?_
            refine ⟨r, .slice qA used used, .slice qR recs.length cR, .slice qA ALL.length cA, recs, used, rfl, ?_, hrm, ?_, ?_⟩
            · rw [hALL, hpar, parseR_stop hstop, List.append_nil]
            · rw [hALL, hL1]; exact hrdx
            · rw [hALL, hD', hFR, hL1]; exact hs
    · (try dsimp only [List.drop_succ_cons, List.drop_zero, List.take_succ_cons, List.take_zero, List.cons_append, List.nil_append])
      cases ok1 with
      | false =>
        rw [if_neg (by simp)] at hfront
        rw [hfront]
        repeat (first | (refine MC.run1 tab 1000 rfl rfl (by first | exact True.intro | (simp only [Conds, rng, Int.toNat_natCast, List.length_append, bytesV_length] <;> omega) | (simp [Conds, rng] <;> omega) | (simp only [Conds, rng, wrap_u8, wrap_u16, wrap_u32, wrap_u64] <;> omega)) ?_) | (refine MC.la true (la_load1 hs rfl (by rfl)) rfl ?_) | (refine MC.part rfl rfl (fun h => absurd h (by first | decide | omega)) (fun _ => ?_)) | (refine MC.part rfl rfl (fun _ => ?_) (fun h => absurd (by first | decide | omega) h)) | (refine MC.cond rfl (fun h => absurd h (by first | decide | omega)) (fun _ => ?_)) | (refine MC.cond rfl (fun _ => ?_) (fun h => absurd (by first | decide | omega) h)))
        exact MC.meet (by repeat (first | exact trivial | refine ⟨rfl, ?_⟩)) hs
      | true =>
        by_cases hn : n1 = 1
        · rw [if_pos ⟨rfl, hn⟩] at hfront
          rw [hfront]
          have hn' : ((n1 : Nat) : Int) = 1 := by omega
          repeat (first | (refine MC.run1 tab 1000 rfl rfl (by first | exact True.intro | (simp only [Conds, rng, Int.toNat_natCast, List.length_append, bytesV_length] <;> omega) | (simp [Conds, rng] <;> omega) | (simp only [Conds, rng, wrap_u8, wrap_u16, wrap_u32, wrap_u64] <;> omega)) ?_) | (refine MC.la true (la_load1 hs rfl (by rfl)) rfl ?_) | (refine MC.part rfl rfl (fun h => absurd h (by first | decide | omega)) (fun _ => ?_)) | (refine MC.part rfl rfl (fun _ => ?_) (fun h => absurd (by first | decide | omega) h)) | (refine MC.cond rfl (fun h => absurd h (by first | decide | omega)) (fun _ => ?_)) | (refine MC.cond rfl (fun _ => ?_) (fun h => absurd (by first | decide | omega) h)))
          refine MC.does true (does_store1 hs rfl rfl rfl (by first | decide | (simp; done) | (simp; omega))) rfl ?_; intro _ w hs
          repeat (first | (refine MC.run1 tab 1000 rfl rfl (by first | exact True.intro | (simp only [Conds, rng, Int.toNat_natCast, List.length_append, bytesV_length] <;> omega) | (simp [Conds, rng] <;> omega) | (simp only [Conds, rng, wrap_u8, wrap_u16, wrap_u32, wrap_u64] <;> omega)) ?_) | (refine MC.la true (la_load1 hs rfl (by rfl)) rfl ?_) | (refine MC.part rfl rfl (fun h => absurd h (by first | decide | omega)) (fun _ => ?_)) | (refine MC.part rfl rfl (fun _ => ?_) (fun h => absurd (by first | decide | omega) h)) | (refine MC.cond rfl (fun h => absurd h (by first | decide | omega)) (fun _ => ?_)) | (refine MC.cond rfl (fun _ => ?_) (fun h => absurd (by first | decide | omega) h)))
          exact MC.meet (by repeat (first | exact trivial | refine ⟨rfl, ?_⟩)) hs
        · rw [if_neg (fun h => hn h.2)] at hfront
          rw [hfront]
          have hn' : ¬ ((n1 : Nat) : Int) = 1 := by omega
          repeat (first | (refine MC.run1 tab 1000 rfl rfl (by first | exact True.intro | (simp only [Conds, rng, Int.toNat_natCast, List.length_append, bytesV_length] <;> omega) | (simp [Conds, rng] <;> omega) | (simp only [Conds, rng, wrap_u8, wrap_u16, wrap_u32, wrap_u64] <;> omega)) ?_) | (refine MC.la true (la_load1 hs rfl (by rfl)) rfl ?_) | (refine MC.part rfl rfl (fun h => absurd h (by first | decide | omega)) (fun _ => ?_)) | (refine MC.part rfl rfl (fun _ => ?_) (fun h => absurd (by first | decide | omega) h)) | (refine MC.cond rfl (fun h => absurd h (by first | decide | omega)) (fun _ => ?_)) | (refine MC.cond rfl (fun _ => ?_) (fun h => absurd (by first | decide | omega) h)))
          exact MC.meet (by repeat (first | exact trivial | refine ⟨rfl, ?_⟩)) hs
end Go.Proofs.YtoigogonccjagaaDoor
