/- Tokens: texts in quotes, and the filters within. -/
import Derived.Test.YtcahpllliflloaaKe
set_option linter.unusedVariables false
set_option linter.unusedSimpArgs false
namespace Go.Proofs.Ytcahpllliflloaa
open Go Go.Sl Go.Tk
attribute [local irreducible] LooksAt

def NErr (nx : Bs → Tk.Nx) : Prop := ∀ r a e, nx r = .err a e → 1 ≤ e ∧ e ≤ 100
def NextC (nx : Bs → Tk.Nx) (d : Int) : Prop := ∀ (F : List Assn) (w : World) (b p : Nat) (s : Bs), MaxC F → s.length ≤ 20000 → p ≤ s.length → Sat (scn b s p :: F) w →
  Ret Try.prog 17 [ptr b, int d] w (nextP b s p F (nx (s.drop p)))
def innerP (b : Nat) (s : Bs) (p : Nat) (F : List Assn) (q : Q) (v : Value) (w' : World) : Prop := match q with
  | .ok n => v = .tuple #[int 0, int 0] ∧ Sat (scn b s (p + n) :: F) w'
  | .text => v = .tuple #[int 0, int 240] ∧ ∃ p', p' ≤ s.length ∧ Sat (scn b s p' :: F) w'
  | .err a e => v = .tuple #[int ((p + a : Nat) : Int), int ((e : Nat) : Int)] ∧ ∃ p', p' ≤ s.length ∧ Sat (scn b s p' :: F) w'
set_option maxHeartbeats 4000000 in
theorem inner_spec {nx : Bs → Tk.Nx} {d : Int} (hd0 : 0 ≤ d ∧ d ≤ 100) (hn : NextC nx (d + 1)) (hok : NOk nx) (hne : NErr nx) {F : List Assn} {w : World} {b p : Nat} {s : Bs} (hM : MaxC F) (hl : s.length ≤ 20000) (hp : p ≤ s.length) (hs : Sat (scn b s p :: F) w) :
    Ret Try.prog 19 [ptr b, int d] w (innerP b s p F (innerL nx (s.drop p) 1)) := by
  refine Ret.enter [(true, ptr b), (true, int d)] _ Try.func19 rfl Try.ntmps19 rfl ?_
  repeat (first | (refine MC.run1 tab 1000 rfl rfl (by first | exact True.intro | (simp only [Conds, rng, Int.toNat_natCast, List.length_append, bytesV_length] <;> omega) | (simp [Conds, rng] <;> omega) | (simp only [Conds, rng, wrap_u8, wrap_u16, wrap_u32, wrap_u64] <;> omega)) ?_) | (refine MC.la true (la_load1 hs rfl (by rfl)) rfl ?_) | (refine MC.part rfl rfl (fun h => absurd h (by first | decide | omega)) (fun _ => ?_)) | (refine MC.part rfl rfl (fun _ => ?_) (fun h => absurd (by first | decide | omega) h)) | (refine MC.cond rfl (fun h => absurd h (by first | decide | omega)) (fun _ => ?_)) | (refine MC.cond rfl (fun _ => ?_) (fun h => absurd (by first | decide | omega) h)))
  refine MC.loop (σ := Nat × Nat) (fun x => [(0, true, ptr b), (1, true, int d), (6, true, int ((x.2 : Nat) : Int))])
    (fun x w => p ≤ x.1 ∧ x.1 ≤ s.length ∧ x.2 ≤ x.1 - p + 1 ∧ (x.2 = 0 → innerL nx (s.drop p) 1 = .ok (x.1 - p)) ∧ (1 ≤ x.2 → innerL nx (s.drop p) 1 = (innerL nx (s.drop x.1) x.2).on (x.1 - p)) ∧ Sat (scn b s x.1 :: F) w)
    (fun x => 2 * (s.length - x.1) + (if x.2 = 0 then 0 else 1)) (p, 1) (by repeat (first | exact trivial | refine ⟨rfl, ?_⟩)) ⟨Nat.le_refl _, hp, by show 1 ≤ p - p + 1; omega, fun h => absurd (show (1 : Nat) = 0 from h) (by decide), fun _ => by rw [Nat.sub_self, Q.on_zero], hs⟩ ?_
  rintro ⟨k, o⟩ w hxs
  replace hxs : p ≤ k ∧ k ≤ s.length ∧ o ≤ k - p + 1 ∧ (o = 0 → innerL nx (s.drop p) 1 = .ok (k - p)) ∧ (1 ≤ o → innerL nx (s.drop p) 1 = (innerL nx (s.drop k) o).on (k - p)) ∧ Sat (scn b s k :: F) w := hxs
  clear hs
  obtain ⟨hpk, hk, ho, h0, h1, hs⟩ := hxs
  dsimp only []
  rcases Nat.eq_zero_or_pos o with hz | hpos
  · subst hz
    rw [h0 rfl]
    repeat (first | (refine MC.run1 tab 1000 rfl rfl (by first | exact True.intro | (simp only [Conds, rng, Int.toNat_natCast, List.length_append, bytesV_length] <;> omega) | (simp [Conds, rng] <;> omega) | (simp only [Conds, rng, wrap_u8, wrap_u16, wrap_u32, wrap_u64] <;> omega)) ?_) | (refine MC.la true (la_load1 hs rfl (by rfl)) rfl ?_) | (refine MC.part rfl rfl (fun h => absurd h (by first | decide | omega)) (fun _ => ?_)) | (refine MC.part rfl rfl (fun _ => ?_) (fun h => absurd (by first | decide | omega) h)) | (refine MC.cond rfl (fun h => absurd h (by first | decide | omega)) (fun _ => ?_)) | (refine MC.cond rfl (fun _ => ?_) (fun h => absurd (by first | decide | omega) h)))
    refine MC.ret rfl ?_
    refine ⟨rfl, ?_⟩
    have e : p + (k - p) = k := by omega
    rw [e]; exact hs
  · have hnx := hn F w b k s hM hl hk hs
    have hdl : (s.drop k).length = s.length - k := List.length_drop
    cases hx : nx (s.drop k) with
    | err a e =>
      have he := hne _ _ _ hx
      rw [hx] at hnx
      rw [h1 hpos, innerL_err hx]
      repeat (first | (refine MC.run1 tab 1000 rfl rfl (by first | exact True.intro | (simp only [Conds, rng, Int.toNat_natCast, List.length_append, bytesV_length] <;> omega) | (simp [Conds, rng] <;> omega) | (simp only [Conds, rng, wrap_u8, wrap_u16, wrap_u32, wrap_u64] <;> omega)) ?_) | (refine MC.la true (la_load1 hs rfl (by rfl)) rfl ?_) | (refine MC.part rfl rfl (fun h => absurd h (by first | decide | omega)) (fun _ => ?_)) | (refine MC.part rfl rfl (fun _ => ?_) (fun h => absurd (by first | decide | omega) h)) | (refine MC.cond rfl (fun h => absurd h (by first | decide | omega)) (fun _ => ?_)) | (refine MC.cond rfl (fun _ => ?_) (fun h => absurd (by first | decide | omega) h)))
      refine MC.does true (does_call rfl (hnx)) rfl ?_
      rintro _ w ⟨rfl, p', hp', hs⟩
      repeat (first | (refine MC.run1 tab 1000 rfl rfl (by first | exact True.intro | (simp only [Conds, rng, Int.toNat_natCast, List.length_append, bytesV_length] <;> omega) | (simp [Conds, rng] <;> omega) | (simp only [Conds, rng, wrap_u8, wrap_u16, wrap_u32, wrap_u64] <;> omega)) ?_) | (refine MC.la true (la_load1 hs rfl (by rfl)) rfl ?_) | (refine MC.part rfl rfl (fun h => absurd h (by first | decide | omega)) (fun _ => ?_)) | (refine MC.part rfl rfl (fun _ => ?_) (fun h => absurd (by first | decide | omega) h)) | (refine MC.cond rfl (fun h => absurd h (by first | decide | omega)) (fun _ => ?_)) | (refine MC.cond rfl (fun _ => ?_) (fun h => absurd (by first | decide | omega) h)))
      refine MC.does true (does_alloc hs) rfl ?_; rintro _ w ⟨bt, rfl, hs⟩
      refine MC.does true (does_store (vs := [int 0, str [], int 0]) hs rfl rfl rfl rfl (by first | (intro u hu; simp only [List.mem_cons, List.not_mem_nil, or_false] at hu; rcases hu with rfl | rfl | rfl | rfl | rfl | rfl | rfl | rfl <;> rfl) | (intro u hu; simp only [List.mem_cons, List.not_mem_nil, or_false] at hu; rcases hu with rfl | rfl | rfl | rfl <;> rfl) | (intro u hu; simp only [List.mem_cons, List.not_mem_nil, or_false] at hu; rcases hu with rfl | rfl <;> rfl) | (intro u hu; simp only [List.mem_cons, List.not_mem_nil, or_false] at hu; subst hu; rfl)) (by simp)) rfl ?_; intro _ w hs
      repeat (first | (refine MC.run1 tab 1000 rfl rfl (by first | exact True.intro | (simp only [Conds, rng, Int.toNat_natCast, List.length_append, bytesV_length] <;> omega) | (simp [Conds, rng] <;> omega) | (simp only [Conds, rng, wrap_u8, wrap_u16, wrap_u32, wrap_u64] <;> omega)) ?_) | (refine MC.la true (la_load1 hs rfl (by rfl)) rfl ?_) | (refine MC.part rfl rfl (fun h => absurd h (by first | decide | omega)) (fun _ => ?_)) | (refine MC.part rfl rfl (fun _ => ?_) (fun h => absurd (by first | decide | omega) h)) | (refine MC.cond rfl (fun h => absurd h (by first | decide | omega)) (fun _ => ?_)) | (refine MC.cond rfl (fun _ => ?_) (fun h => absurd (by first | decide | omega) h)))
      refine MC.ret rfl ?_
      have e2 : k + a = p + (k - p + a) := by omega
      rw [e2]
      exact ⟨rfl, p', hp', hs.tail⟩
    | none =>
      rw [hx] at hnx
      rw [h1 hpos, innerL_none hx]
      repeat (first | (refine MC.run1 tab 1000 rfl rfl (by first | exact True.intro | (simp only [Conds, rng, Int.toNat_natCast, List.length_append, bytesV_length] <;> omega) | (simp [Conds, rng] <;> omega) | (simp only [Conds, rng, wrap_u8, wrap_u16, wrap_u32, wrap_u64] <;> omega)) ?_) | (refine MC.la true (la_load1 hs rfl (by rfl)) rfl ?_) | (refine MC.part rfl rfl (fun h => absurd h (by first | decide | omega)) (fun _ => ?_)) | (refine MC.part rfl rfl (fun _ => ?_) (fun h => absurd (by first | decide | omega) h)) | (refine MC.cond rfl (fun h => absurd h (by first | decide | omega)) (fun _ => ?_)) | (refine MC.cond rfl (fun _ => ?_) (fun h => absurd (by first | decide | omega) h)))
      refine MC.does true (does_call rfl (hnx)) rfl ?_
      rintro _ w ⟨rfl, hs⟩
      repeat (first | (refine MC.run1 tab 1000 rfl rfl (by first | exact True.intro | (simp only [Conds, rng, Int.toNat_natCast, List.length_append, bytesV_length] <;> omega) | (simp [Conds, rng] <;> omega) | (simp only [Conds, rng, wrap_u8, wrap_u16, wrap_u32, wrap_u64] <;> omega)) ?_) | (refine MC.la true (la_load1 hs rfl (by rfl)) rfl ?_) | (refine MC.part rfl rfl (fun h => absurd h (by first | decide | omega)) (fun _ => ?_)) | (refine MC.part rfl rfl (fun _ => ?_) (fun h => absurd (by first | decide | omega) h)) | (refine MC.cond rfl (fun h => absurd h (by first | decide | omega)) (fun _ => ?_)) | (refine MC.cond rfl (fun _ => ?_) (fun h => absurd (by first | decide | omega) h)))
      refine MC.does true (does_alloc hs) rfl ?_; rintro _ w ⟨bt, rfl, hs⟩
      refine MC.does true (does_store (vs := [int 0, str [], int 0]) hs rfl rfl rfl rfl (by first | (intro u hu; simp only [List.mem_cons, List.not_mem_nil, or_false] at hu; rcases hu with rfl | rfl | rfl | rfl | rfl | rfl | rfl | rfl <;> rfl) | (intro u hu; simp only [List.mem_cons, List.not_mem_nil, or_false] at hu; rcases hu with rfl | rfl | rfl | rfl <;> rfl) | (intro u hu; simp only [List.mem_cons, List.not_mem_nil, or_false] at hu; rcases hu with rfl | rfl <;> rfl) | (intro u hu; simp only [List.mem_cons, List.not_mem_nil, or_false] at hu; subst hu; rfl)) (by simp)) rfl ?_; intro _ w hs
      repeat (first | (refine MC.run1 tab 1000 rfl rfl (by first | exact True.intro | (simp only [Conds, rng, Int.toNat_natCast, List.length_append, bytesV_length] <;> omega) | (simp [Conds, rng] <;> omega) | (simp only [Conds, rng, wrap_u8, wrap_u16, wrap_u32, wrap_u64] <;> omega)) ?_) | (refine MC.la true (la_load1 hs rfl (by rfl)) rfl ?_) | (refine MC.part rfl rfl (fun h => absurd h (by first | decide | omega)) (fun _ => ?_)) | (refine MC.part rfl rfl (fun _ => ?_) (fun h => absurd (by first | decide | omega) h)) | (refine MC.cond rfl (fun h => absurd h (by first | decide | omega)) (fun _ => ?_)) | (refine MC.cond rfl (fun _ => ?_) (fun h => absurd (by first | decide | omega) h)))
      refine MC.ret rfl ?_
      exact ⟨rfl, _, Nat.le_refl _, hs.tail⟩
    | tok sk n kd tx =>
      have hb := hok _ _ _ _ _ hx
      rw [hx] at hnx
      have hst := innerL_step hok hx (o := o)
      rw [List.drop_drop] at hst
      obtain ⟨O, hO⟩ : ∃ O, opens o kd tx = O := ⟨_, rfl⟩
      rw [hO] at hst
      have hO1 : O ≤ o + 1 := by
        rw [← hO]; unfold opens
        split
        · omega
        · split <;> omega
      have hinv : (O = 0 → innerL nx (s.drop p) 1 = .ok (k + (sk + n) - p)) ∧ (1 ≤ O → innerL nx (s.drop p) 1 = (innerL nx (s.drop (k + (sk + n))) O).on (k + (sk + n) - p)) := by
        refine ⟨fun h => ?_, fun h => ?_⟩
        · rw [h1 hpos, hst, if_pos h]
          show Q.ok _ = _
          congr 1; omega
        · rw [h1 hpos, hst, if_neg (by omega), Q.on_on]
          congr 1; omega
      have hlast : p ≤ k + (sk + n) ∧ k + (sk + n) ≤ s.length ∧ O ≤ k + (sk + n) - p + 1 ∧ 2 * (s.length - (k + (sk + n))) + (if O = 0 then 0 else 1) < 2 * (s.length - k) + (if o = 0 then 0 else 1) := by
        refine ⟨by omega, by omega, by omega, ?_⟩
        rw [if_neg (show ¬ o = 0 by omega)]
        split <;> omega
      repeat (first | (refine MC.run1 tab 1000 rfl rfl (by first | exact True.intro | (simp only [Conds, rng, Int.toNat_natCast, List.length_append, bytesV_length] <;> omega) | (simp [Conds, rng] <;> omega) | (simp only [Conds, rng, wrap_u8, wrap_u16, wrap_u32, wrap_u64] <;> omega)) ?_) | (refine MC.la true (la_load1 hs rfl (by rfl)) rfl ?_) | (refine MC.part rfl rfl (fun h => absurd h (by first | decide | omega)) (fun _ => ?_)) | (refine MC.part rfl rfl (fun _ => ?_) (fun h => absurd (by first | decide | omega) h)) | (refine MC.cond rfl (fun h => absurd h (by first | decide | omega)) (fun _ => ?_)) | (refine MC.cond rfl (fun _ => ?_) (fun h => absurd (by first | decide | omega) h)))
      refine MC.does true (does_call rfl (hnx)) rfl ?_
      rintro _ w ⟨rfl, hs⟩
      repeat (first | (refine MC.run1 tab 1000 rfl rfl (by first | exact True.intro | (simp only [Conds, rng, Int.toNat_natCast, List.length_append, bytesV_length] <;> omega) | (simp [Conds, rng] <;> omega) | (simp only [Conds, rng, wrap_u8, wrap_u16, wrap_u32, wrap_u64] <;> omega)) ?_) | (refine MC.la true (la_load1 hs rfl (by rfl)) rfl ?_) | (refine MC.part rfl rfl (fun h => absurd h (by first | decide | omega)) (fun _ => ?_)) | (refine MC.part rfl rfl (fun _ => ?_) (fun h => absurd (by first | decide | omega) h)) | (refine MC.cond rfl (fun h => absurd h (by first | decide | omega)) (fun _ => ?_)) | (refine MC.cond rfl (fun _ => ?_) (fun h => absurd (by first | decide | omega) h)))
      refine MC.does true (does_alloc hs) rfl ?_; rintro _ w ⟨bt, rfl, hs⟩
      refine MC.does true (does_store (vs := [int ((kd : Nat) : Int), str tx, int ((k + sk : Nat) : Int)]) hs rfl rfl rfl rfl (by first | (intro u hu; simp only [List.mem_cons, List.not_mem_nil, or_false] at hu; rcases hu with rfl | rfl | rfl | rfl | rfl | rfl | rfl | rfl <;> rfl) | (intro u hu; simp only [List.mem_cons, List.not_mem_nil, or_false] at hu; rcases hu with rfl | rfl | rfl | rfl <;> rfl) | (intro u hu; simp only [List.mem_cons, List.not_mem_nil, or_false] at hu; rcases hu with rfl | rfl <;> rfl) | (intro u hu; simp only [List.mem_cons, List.not_mem_nil, or_false] at hu; subst hu; rfl)) (by simp)) rfl ?_; intro _ w hs
      have hs : Sat (blk bt [int ((kd : Nat) : Int), str tx, int ((k + sk : Nat) : Int)] 36 :: scn b s (k + (sk + n)) :: F) w := hs
      by_cases h6 : kd = 6
      · have h6' : ((kd : Nat) : Int) = 6 := by omega
        by_cases ht1 : tx = [40]
        · have hOe : ((o : Nat) : Int) + 1 = ((O : Nat) : Int) := by
            rw [← hO]; unfold opens; rw [if_pos ⟨h6, ht1⟩]; omega
          repeat (first | (refine MC.run1 tab 1000 rfl rfl (by first | exact True.intro | (simp only [Conds, rng, Int.toNat_natCast, List.length_append, bytesV_length] <;> omega) | (simp [Conds, rng] <;> omega) | (simp only [Conds, rng, wrap_u8, wrap_u16, wrap_u32, wrap_u64] <;> omega)) ?_) | (refine MC.la true (la_load1 hs rfl (by rfl)) rfl ?_) | (refine MC.part rfl rfl (fun h => absurd h (by first | decide | omega)) (fun _ => ?_)) | (refine MC.part rfl rfl (fun _ => ?_) (fun h => absurd (by first | decide | omega) h)) | (refine MC.cond rfl (fun h => absurd h (by first | decide | omega)) (fun _ => ?_)) | (refine MC.cond rfl (fun _ => ?_) (fun h => absurd (by first | decide | omega) h)))
          rw [hOe]
          refine MC.again (k + (sk + n), O) (by repeat (first | exact trivial | refine ⟨rfl, ?_⟩)) ⟨hlast.1, hlast.2.1, hlast.2.2.1, hinv.1, hinv.2, hs.tail⟩ hlast.2.2.2
        · by_cases ht2 : tx = [41]
          · have hOe : ((o : Nat) : Int) - 1 = ((O : Nat) : Int) := by
              rw [← hO]; unfold opens; rw [if_neg (fun h => ht1 h.2), if_pos ⟨h6, ht2⟩]; omega
            repeat (first | (refine MC.run1 tab 1000 rfl rfl (by first | exact True.intro | (simp only [Conds, rng, Int.toNat_natCast, List.length_append, bytesV_length] <;> omega) | (simp [Conds, rng] <;> omega) | (simp only [Conds, rng, wrap_u8, wrap_u16, wrap_u32, wrap_u64] <;> omega)) ?_) | (refine MC.la true (la_load1 hs rfl (by rfl)) rfl ?_) | (refine MC.part rfl rfl (fun h => absurd h (by first | decide | omega)) (fun _ => ?_)) | (refine MC.part rfl rfl (fun _ => ?_) (fun h => absurd (by first | decide | omega) h)) | (refine MC.cond rfl (fun h => absurd h (by first | decide | omega)) (fun _ => ?_)) | (refine MC.cond rfl (fun _ => ?_) (fun h => absurd (by first | decide | omega) h)))
            rw [hOe]
            refine MC.again (k + (sk + n), O) (by repeat (first | exact trivial | refine ⟨rfl, ?_⟩)) ⟨hlast.1, hlast.2.1, hlast.2.2.1, hinv.1, hinv.2, hs.tail⟩ hlast.2.2.2
          · have hOe : ((o : Nat) : Int) = ((O : Nat) : Int) := by
              rw [← hO]; unfold opens; rw [if_neg (fun h => ht1 h.2), if_neg (fun h => ht2 h.2)]
            repeat (first | (refine MC.run1 tab 1000 rfl rfl (by first | exact True.intro | (simp only [Conds, rng, Int.toNat_natCast, List.length_append, bytesV_length] <;> omega) | (simp [Conds, rng] <;> omega) | (simp only [Conds, rng, wrap_u8, wrap_u16, wrap_u32, wrap_u64] <;> omega)) ?_) | (refine MC.la true (la_load1 hs rfl (by rfl)) rfl ?_) | (refine MC.part rfl rfl (fun h => absurd h (by first | decide | omega)) (fun _ => ?_)) | (refine MC.part rfl rfl (fun _ => ?_) (fun h => absurd (by first | decide | omega) h)) | (refine MC.cond rfl (fun h => absurd h (by first | decide | omega)) (fun _ => ?_)) | (refine MC.cond rfl (fun _ => ?_) (fun h => absurd (by first | decide | omega) h)))
            rw [hOe]
            refine MC.again (k + (sk + n), O) (by repeat (first | exact trivial | refine ⟨rfl, ?_⟩)) ⟨hlast.1, hlast.2.1, hlast.2.2.1, hinv.1, hinv.2, hs.tail⟩ hlast.2.2.2
      · have h6' : ¬ ((kd : Nat) : Int) = 6 := by omega
        have hOe : ((o : Nat) : Int) = ((O : Nat) : Int) := by
          rw [← hO]; unfold opens; rw [if_neg (fun h => h6 h.1), if_neg (fun h => h6 h.1)]
        repeat (first | (refine MC.run1 tab 1000 rfl rfl (by first | exact True.intro | (simp only [Conds, rng, Int.toNat_natCast, List.length_append, bytesV_length] <;> omega) | (simp [Conds, rng] <;> omega) | (simp only [Conds, rng, wrap_u8, wrap_u16, wrap_u32, wrap_u64] <;> omega)) ?_) | (refine MC.la true (la_load1 hs rfl (by rfl)) rfl ?_) | (refine MC.part rfl rfl (fun h => absurd h (by first | decide | omega)) (fun _ => ?_)) | (refine MC.part rfl rfl (fun _ => ?_) (fun h => absurd (by first | decide | omega) h)) | (refine MC.cond rfl (fun h => absurd h (by first | decide | omega)) (fun _ => ?_)) | (refine MC.cond rfl (fun _ => ?_) (fun h => absurd (by first | decide | omega) h)))
        rw [hOe]
        refine MC.again (k + (sk + n), O) (by repeat (first | exact trivial | refine ⟨rfl, ?_⟩)) ⟨hlast.1, hlast.2.1, hlast.2.2.1, hinv.1, hinv.2, hs.tail⟩ hlast.2.2.2
end Go.Proofs.Ytcahpllliflloaa
