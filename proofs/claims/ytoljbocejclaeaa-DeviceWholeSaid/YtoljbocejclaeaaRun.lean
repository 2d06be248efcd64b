/- The laws' helper 'run': writes and syncs. -/
import Derived.Test.YtoljbocejclaeaaActs
set_option linter.unusedVariables false
set_option linter.unusedSimpArgs false
namespace Go.Proofs.Ytoljbocejclaeaa
open Go Go.Sl
attribute [local irreducible] LooksAt

def Dev.put (D : Dev) (a : ActR) : Dev := if a.bytes.length ≤ 256 then (if D.wrong a.k 256 = 0 then D.write a.k.toNat (filled a.by' a.bytes) else D) else D
def Dev.act (D : Dev) (a : ActR) : Dev := if a.kd = 0 then D.put a else if a.kd = 1 then (if D.wrong 0 256 = 0 then D.sync else D) else D
def Dev.runs (D : Dev) (l : List ActR) : Dev := l.foldl Dev.act D
/-- How a device is behind some writes and syncs. -/
structure Dev.from_ (D E : Dev) (n : Nat) : Prop where
  ok : E.ok
  len : E.S.length = D.S.length
  few : E.O.length ≤ D.O.length + n
  fuse : D.fuse = 0 → E.fuse = 0
theorem Dev.from_.refl {D : Dev} (hD : D.ok) : D.from_ D 0 := ⟨hD, rfl, Nat.le_refl _, id⟩
theorem burnt_zero {f : Int} (h : f = 0) : burnt f = 0 := by subst h; rfl
theorem Dev.from_.put {D E : Dev} {n : Nat} (h : D.from_ E n) (a : ActR) : D.from_ (E.put a) (n + 1) := by
  unfold Dev.put
  split
  · split
    · rename_i hw
      obtain ⟨h1, h2, _, _⟩ := Dev.wrong_zero.1 hw
      refine ⟨Dev.write_ok h.ok (by omega) (filled_length _ _), h.len, ?_, fun h0 => burnt_zero (h.fuse h0)⟩
      have := h.few
      simp [Dev.write]; omega
    · exact ⟨h.ok, h.len, Nat.le_succ_of_le h.few, h.fuse⟩
  · exact ⟨h.ok, h.len, Nat.le_succ_of_le h.few, h.fuse⟩
theorem Dev.from_.act {D E : Dev} {n : Nat} (h : D.from_ E n) (a : ActR) : D.from_ (E.act a) (n + 1) := by
  unfold Dev.act
  split
  · exact h.put a
  · split
    · split
      · exact ⟨Dev.sync_ok h.ok, (laid_length _ _).trans h.len, Nat.zero_le _, fun h0 => burnt_zero (h.fuse h0)⟩
      · exact ⟨h.ok, h.len, Nat.le_succ_of_le h.few, h.fuse⟩
    · exact ⟨h.ok, h.len, Nat.le_succ_of_le h.few, h.fuse⟩
theorem Dev.from_.runs {D : Dev} : ∀ (l : List ActR) {E : Dev} {n : Nat}, D.from_ E n → D.from_ (E.runs l) (n + l.length)
  | [], _, _, h => h
  | a :: l, E, n, h => by
    have := Dev.from_.runs l (h.act a)
    rw [List.length_cons, Nat.add_comm l.length 1, ← Nat.add_assoc]
    exact this
theorem Dev.runs_take {D : Dev} {l : List ActR} {i : Nat} (hi : i < l.length) : D.runs (l.take (i + 1)) = (D.runs (l.take i)).act l[i] := by
  simp only [Dev.runs]
  rw [List.take_add_one, List.getElem?_eq_getElem hi, List.foldl_append]
  rfl
theorem ActR.row_length (a : ActR) : a.row.length = 6 := rfl
theorem ActR.row_one (a : ActR) : ∀ u ∈ a.row, u.oneCell' = true := by
  intro u hu
  simp only [ActR.row, List.mem_cons, List.not_mem_nil, or_false] at hu
  rcases hu with rfl | rfl | rfl | rfl | rfl | rfl <;> rfl
theorem run_spec {F : List Assn} {p : Nat} {D : Dev} {w : World} {va : Value} {acts : List ActR} (hs : Sat (dev p D :: F) w) (hD : D.ok) (hO : D.O.length ≤ 50000)
    (ha : RdS F 6 va acts.length (acts.flatMap ActR.row)) (hok : ∀ a ∈ acts, a.ok F) :
    Ret Try.prog 13 [ptr p, va] w fun _ w' => Sat (dev p (D.runs (acts.take 40)) :: F) w' := by
  obtain ⟨qa, ca, rfl, hca, hal⟩ := ha.shape
  refine Ret.enter [(true, ptr p), (true, .slice qa acts.length ca)] _ Try.func13 rfl Try.ntmps13 rfl ?_
  repeat (first | (refine MC.run1 tab 1000 rfl rfl (by first | exact True.intro | (simp only [Conds, rng, Int.toNat_natCast, List.length_append, bytesV_length] <;> omega) | (simp [Conds, rng] <;> omega)) ?_) | (refine MC.la true (la_load1 hs rfl (by rfl)) rfl ?_) | (refine MC.part rfl rfl (fun h => absurd h (by first | decide | omega)) (fun _ => ?_)) | (refine MC.part rfl rfl (fun _ => ?_) (fun h => absurd (by first | decide | omega) h)) | (refine MC.cond rfl (fun h => absurd h (by first | decide | omega)) (fun _ => ?_)) | (refine MC.cond rfl (fun _ => ?_) (fun h => absurd (by first | decide | omega) h)))
  refine MC.loop (σ := Nat) (fun i => [(0, true, ptr p), (1, true, .slice qa acts.length ca), (4, true, int ((i : Nat) : Int))])
    (fun i w => i ≤ acts.length ∧ i ≤ 40 ∧ Sat (dev p (D.runs (acts.take i)) :: F) w) (fun i => 40 - i) 0 (by repeat (first | exact trivial | refine ⟨rfl, ?_⟩)) ⟨by omega, by omega, hs⟩ ?_
  rintro i w ⟨hi, hi4, hs⟩
  have hfr := Dev.from_.runs (acts.take i) (Dev.from_.refl hD)
  have hEO : (D.runs (acts.take i)).O.length ≤ 100000 := by
    have := hfr.few
    rw [List.length_take] at this
    omega
  have hE := hfr.ok
  repeat (first | (refine MC.run1 tab 1000 rfl rfl (by first | exact True.intro | (simp only [Conds, rng, Int.toNat_natCast, List.length_append, bytesV_length] <;> omega) | (simp [Conds, rng] <;> omega)) ?_) | (refine MC.la true (la_load1 hs rfl (by rfl)) rfl ?_) | (refine MC.part rfl rfl (fun h => absurd h (by first | decide | omega)) (fun _ => ?_)) | (refine MC.part rfl rfl (fun _ => ?_) (fun h => absurd (by first | decide | omega) h)) | (refine MC.cond rfl (fun h => absurd h (by first | decide | omega)) (fun _ => ?_)) | (refine MC.cond rfl (fun _ => ?_) (fun h => absurd (by first | decide | omega) h)))
  refine MC.part rfl rfl (fun h1 => ?_) (fun h1 => ?_)
  · have hlt : i < acts.length := by omega
    repeat (first | (refine MC.run1 tab 1000 rfl rfl (by first | exact True.intro | (simp only [Conds, rng, Int.toNat_natCast, List.length_append, bytesV_length] <;> omega) | (simp [Conds, rng] <;> omega)) ?_) | (refine MC.la true (la_load1 hs rfl (by rfl)) rfl ?_) | (refine MC.part rfl rfl (fun h => absurd h (by first | decide | omega)) (fun _ => ?_)) | (refine MC.part rfl rfl (fun _ => ?_) (fun h => absurd (by first | decide | omega) h)) | (refine MC.cond rfl (fun h => absurd h (by first | decide | omega)) (fun _ => ?_)) | (refine MC.cond rfl (fun _ => ?_) (fun h => absurd (by first | decide | omega) h)))
    refine MC.cond rfl (fun h2 => ?_) (fun h2 => ?_)
    · obtain ⟨ba, oa, rfl, hr⟩ := ha.at_ (by omega)
      have hao := hok _ (List.getElem_mem hlt)
      have hrow : ((acts.flatMap ActR.row).drop (i * 6)).take 6 = acts[i].row := rows_get (fun x _ => x.row_length) hlt
      have hstep : ∀ E, D.runs (acts.take i) = E → D.runs (acts.take (i + 1)) = E.act acts[i] := fun E e => by rw [Dev.runs_take hlt, e]
      generalize D.runs (acts.take i) = E at hs hEO hE hstep
      have hstep := hstep E rfl
      generalize acts[i] = a at hao hrow hstep
      obtain ⟨kd, k, at', by', qb, cb, bytes, qk, ck, kept⟩ := a
      have hbytes := hao.bytes
      dsimp only [ActR.row] at hrow hbytes
      repeat (first | (refine MC.run1 tab 1000 rfl rfl (by first | exact True.intro | (simp only [Conds, rng, Int.toNat_natCast, List.length_append, bytesV_length] <;> omega) | (simp [Conds, rng] <;> omega)) ?_) | (refine MC.la true (la_load1 hs rfl (by rfl)) rfl ?_) | (refine MC.part rfl rfl (fun h => absurd h (by first | decide | omega)) (fun _ => ?_)) | (refine MC.part rfl rfl (fun _ => ?_) (fun h => absurd (by first | decide | omega) h)) | (refine MC.cond rfl (fun h => absurd h (by first | decide | omega)) (fun _ => ?_)) | (refine MC.cond rfl (fun _ => ?_) (fun h => absurd (by first | decide | omega) h)))
      refine MC.la true (la_loadV_rd hr hs (j := i * 6) rfl (vs := [int kd, int k, int at', byte by', .slice qb bytes.length cb, .slice qk kept.length ck]) hrow rfl rfl) rfl ?_
      refine MC.does true (does_alloc hs) rfl ?_; rintro _ w ⟨_, rfl, hs⟩
      refine MC.does true (does_store (vs := [int kd, int k, int at', byte by', .slice qb bytes.length cb, .slice qk kept.length ck]) hs rfl rfl rfl rfl (ActR.row_one ⟨kd, k, at', by', qb, cb, bytes, qk, ck, kept⟩) (by simp)) rfl ?_
      intro _ w hs
      rw [splice_all (by rfl)] at hs
      repeat (first | (refine MC.run1 tab 1000 rfl rfl (by first | exact True.intro | (simp only [Conds, rng, Int.toNat_natCast, List.length_append, bytesV_length] <;> omega) | (simp [Conds, rng] <;> omega)) ?_) | (refine MC.la true (la_load1 hs rfl (by rfl)) rfl ?_) | (refine MC.part rfl rfl (fun h => absurd h (by first | decide | omega)) (fun _ => ?_)) | (refine MC.part rfl rfl (fun _ => ?_) (fun h => absurd (by first | decide | omega) h)) | (refine MC.cond rfl (fun h => absurd h (by first | decide | omega)) (fun _ => ?_)) | (refine MC.cond rfl (fun _ => ?_) (fun h => absurd (by first | decide | omega) h)))
      refine MC.cond rfl (fun h3 => ?_) (fun h3 => ?_)
      · repeat (first | (refine MC.run1 tab 1000 rfl rfl (by first | exact True.intro | (simp only [Conds, rng, Int.toNat_natCast, List.length_append, bytesV_length] <;> omega) | (simp [Conds, rng] <;> omega)) ?_) | (refine MC.la true (la_load1 hs rfl (by rfl)) rfl ?_) | (refine MC.part rfl rfl (fun h => absurd h (by first | decide | omega)) (fun _ => ?_)) | (refine MC.part rfl rfl (fun _ => ?_) (fun h => absurd (by first | decide | omega) h)) | (refine MC.cond rfl (fun h => absurd h (by first | decide | omega)) (fun _ => ?_)) | (refine MC.cond rfl (fun _ => ?_) (fun h => absurd (by first | decide | omega) h)))
        refine MC.cond rfl (fun h4 => ?_) (fun h4 => ?_)
        · repeat (first | (refine MC.run1 tab 1000 rfl rfl (by first | exact True.intro | (simp only [Conds, rng, Int.toNat_natCast, List.length_append, bytesV_length] <;> omega) | (simp [Conds, rng] <;> omega)) ?_) | (refine MC.la true (la_load1 hs rfl (by rfl)) rfl ?_) | (refine MC.part rfl rfl (fun h => absurd h (by first | decide | omega)) (fun _ => ?_)) | (refine MC.part rfl rfl (fun _ => ?_) (fun h => absurd (by first | decide | omega) h)) | (refine MC.cond rfl (fun h => absurd h (by first | decide | omega)) (fun _ => ?_)) | (refine MC.cond rfl (fun _ => ?_) (fun h => absurd (by first | decide | omega) h)))
          refine MC.draw hs [0,1,2,3,4,5,6,7,8] (by rfl) ?_; intro w hs
          repeat (first | (refine MC.run1 tab 1000 rfl rfl (by first | exact True.intro | (simp only [Conds, rng, Int.toNat_natCast, List.length_append, bytesV_length] <;> omega) | (simp [Conds, rng] <;> omega)) ?_) | (refine MC.laD true (la_load1 hs rfl (by rfl)) rfl ?_) | (refine MC.part rfl rfl (fun h => absurd h (by first | decide | omega)) (fun _ => ?_)) | (refine MC.part rfl rfl (fun _ => ?_) (fun h => absurd (by first | decide | omega) h)) | (refine MC.cond rfl (fun h => absurd h (by first | decide | omega)) (fun _ => ?_)) | (refine MC.cond rfl (fun _ => ?_) (fun h => absurd (by first | decide | omega) h)))
          refine MC.doesK true (does_call rfl (filled_spec (c := by') (l := bytes) hs hbytes.up)) rfl rfl rfl ?_
          rintro _ w ⟨b6, rfl, hs⟩
          refine ⟨(by repeat (first | exact True.intro | refine ⟨At.sat hs, ?_⟩ | refine ⟨Suf.sat hs, ?_⟩)), ?_⟩
          have hs := hs.pickF 3 [2, 0, 1] rfl rfl
          (try dsimp only [List.eraseIdx, List.cons_append, List.nil_append, List.drop_succ_cons, List.drop_zero, List.append_eq] at hs)
          have hw := write_spec (k := k) hs hE (filled_rd (b := b6) (c := by') (l := bytes)) hEO
          rw [filled_length] at hw
          refine MC.doesK true (does_call rfl hw) rfl rfl rfl ?_
          rintro _ w ⟨rfl, hs⟩
          refine ⟨(by repeat (first | exact True.intro | refine ⟨At.sat hs, ?_⟩ | refine ⟨Suf.sat hs, ?_⟩)), ?_⟩
          repeat (first | (refine MC.run1 tab 1000 rfl rfl (by first | exact True.intro | (simp only [Conds, rng, Int.toNat_natCast, List.length_append, bytesV_length] <;> omega) | (simp [Conds, rng] <;> omega)) ?_) | (refine MC.la true (la_load1 hs rfl (by rfl)) rfl ?_) | (refine MC.part rfl rfl (fun h => absurd h (by first | decide | omega)) (fun _ => ?_)) | (refine MC.part rfl rfl (fun _ => ?_) (fun h => absurd (by first | decide | omega) h)) | (refine MC.cond rfl (fun h => absurd h (by first | decide | omega)) (fun _ => ?_)) | (refine MC.cond rfl (fun _ => ?_) (fun h => absurd (by first | decide | omega) h)))
          refine MC.again (i + 1) (by repeat (first | exact trivial | refine ⟨rfl, ?_⟩)) ⟨hlt, by omega, ?_⟩ (by omega)
          have hs := hs.pickF 3 [0] rfl rfl
          rw [hstep, Dev.act, if_pos h3, Dev.put, if_pos (show bytes.length ≤ 256 by omega)]
          exact hs
        · repeat (first | (refine MC.run1 tab 1000 rfl rfl (by first | exact True.intro | (simp only [Conds, rng, Int.toNat_natCast, List.length_append, bytesV_length] <;> omega) | (simp [Conds, rng] <;> omega)) ?_) | (refine MC.la true (la_load1 hs rfl (by rfl)) rfl ?_) | (refine MC.part rfl rfl (fun h => absurd h (by first | decide | omega)) (fun _ => ?_)) | (refine MC.part rfl rfl (fun _ => ?_) (fun h => absurd (by first | decide | omega) h)) | (refine MC.cond rfl (fun h => absurd h (by first | decide | omega)) (fun _ => ?_)) | (refine MC.cond rfl (fun _ => ?_) (fun h => absurd (by first | decide | omega) h)))
          refine MC.again (i + 1) (by repeat (first | exact trivial | refine ⟨rfl, ?_⟩)) ⟨hlt, by omega, ?_⟩ (by omega)
          rw [hstep, Dev.act, if_pos h3, Dev.put, if_neg (show ¬ bytes.length ≤ 256 by omega)]
          exact hs.tail
      · repeat (first | (refine MC.run1 tab 1000 rfl rfl (by first | exact True.intro | (simp only [Conds, rng, Int.toNat_natCast, List.length_append, bytesV_length] <;> omega) | (simp [Conds, rng] <;> omega)) ?_) | (refine MC.la true (la_load1 hs rfl (by rfl)) rfl ?_) | (refine MC.part rfl rfl (fun h => absurd h (by first | decide | omega)) (fun _ => ?_)) | (refine MC.part rfl rfl (fun _ => ?_) (fun h => absurd (by first | decide | omega) h)) | (refine MC.cond rfl (fun h => absurd h (by first | decide | omega)) (fun _ => ?_)) | (refine MC.cond rfl (fun _ => ?_) (fun h => absurd (by first | decide | omega) h)))
        refine MC.cond rfl (fun h4 => ?_) (fun h4 => ?_)
        · repeat (first | (refine MC.run1 tab 1000 rfl rfl (by first | exact True.intro | (simp only [Conds, rng, Int.toNat_natCast, List.length_append, bytesV_length] <;> omega) | (simp [Conds, rng] <;> omega)) ?_) | (refine MC.la true (la_load1 hs rfl (by rfl)) rfl ?_) | (refine MC.part rfl rfl (fun h => absurd h (by first | decide | omega)) (fun _ => ?_)) | (refine MC.part rfl rfl (fun _ => ?_) (fun h => absurd (by first | decide | omega) h)) | (refine MC.cond rfl (fun h => absurd h (by first | decide | omega)) (fun _ => ?_)) | (refine MC.cond rfl (fun _ => ?_) (fun h => absurd (by first | decide | omega) h)))
          refine MC.does true (does_call rfl (sync_spec hs.swap hE hEO)) rfl ?_
          rintro _ w ⟨rfl, hs⟩
          repeat (first | (refine MC.run1 tab 1000 rfl rfl (by first | exact True.intro | (simp only [Conds, rng, Int.toNat_natCast, List.length_append, bytesV_length] <;> omega) | (simp [Conds, rng] <;> omega)) ?_) | (refine MC.la true (la_load1 hs rfl (by rfl)) rfl ?_) | (refine MC.part rfl rfl (fun h => absurd h (by first | decide | omega)) (fun _ => ?_)) | (refine MC.part rfl rfl (fun _ => ?_) (fun h => absurd (by first | decide | omega) h)) | (refine MC.cond rfl (fun h => absurd h (by first | decide | omega)) (fun _ => ?_)) | (refine MC.cond rfl (fun _ => ?_) (fun h => absurd (by first | decide | omega) h)))
          refine MC.again (i + 1) (by repeat (first | exact trivial | refine ⟨rfl, ?_⟩)) ⟨hlt, by omega, ?_⟩ (by omega)
          rw [hstep, Dev.act, if_neg h3, if_pos h4]
          exact hs.swap.tail
        · repeat (first | (refine MC.run1 tab 1000 rfl rfl (by first | exact True.intro | (simp only [Conds, rng, Int.toNat_natCast, List.length_append, bytesV_length] <;> omega) | (simp [Conds, rng] <;> omega)) ?_) | (refine MC.la true (la_load1 hs rfl (by rfl)) rfl ?_) | (refine MC.part rfl rfl (fun h => absurd h (by first | decide | omega)) (fun _ => ?_)) | (refine MC.part rfl rfl (fun _ => ?_) (fun h => absurd (by first | decide | omega) h)) | (refine MC.cond rfl (fun h => absurd h (by first | decide | omega)) (fun _ => ?_)) | (refine MC.cond rfl (fun _ => ?_) (fun h => absurd (by first | decide | omega) h)))
          refine MC.again (i + 1) (by repeat (first | exact trivial | refine ⟨rfl, ?_⟩)) ⟨hlt, by omega, ?_⟩ (by omega)
          rw [hstep, Dev.act, if_neg h3, if_neg h4]
          exact hs.tail
    · have hi' : i = 40 := by omega
      subst hi'
      repeat (first | (refine MC.run1 tab 1000 rfl rfl (by first | exact True.intro | (simp only [Conds, rng, Int.toNat_natCast, List.length_append, bytesV_length] <;> omega) | (simp [Conds, rng] <;> omega)) ?_) | (refine MC.la true (la_load1 hs rfl (by rfl)) rfl ?_) | (refine MC.part rfl rfl (fun h => absurd h (by first | decide | omega)) (fun _ => ?_)) | (refine MC.part rfl rfl (fun _ => ?_) (fun h => absurd (by first | decide | omega) h)) | (refine MC.cond rfl (fun h => absurd h (by first | decide | omega)) (fun _ => ?_)) | (refine MC.cond rfl (fun _ => ?_) (fun h => absurd (by first | decide | omega) h)))
      refine MC.end_ rfl ?_
      exact hs
  · repeat (first | (refine MC.run1 tab 1000 rfl rfl (by first | exact True.intro | (simp only [Conds, rng, Int.toNat_natCast, List.length_append, bytesV_length] <;> omega) | (simp [Conds, rng] <;> omega)) ?_) | (refine MC.la true (la_load1 hs rfl (by rfl)) rfl ?_) | (refine MC.part rfl rfl (fun h => absurd h (by first | decide | omega)) (fun _ => ?_)) | (refine MC.part rfl rfl (fun _ => ?_) (fun h => absurd (by first | decide | omega) h)) | (refine MC.cond rfl (fun h => absurd h (by first | decide | omega)) (fun _ => ?_)) | (refine MC.cond rfl (fun _ => ?_) (fun h => absurd (by first | decide | omega) h)))
    refine MC.end_ rfl ?_
    have : acts.take 40 = acts.take i := by rw [List.take_of_length_le (by omega), List.take_of_length_le (by omega)]
    rw [this]
    exact hs
end Go.Proofs.Ytoljbocejclaeaa
