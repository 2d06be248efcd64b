/- Journals: what one says of the heap; Reset, Add, Commit, Records and the small ones. -/
import Derived.Test.YtoigogonccjagaaDoorJd
set_option linter.unusedVariables false
set_option linter.unusedSimpArgs false
namespace Go.Proofs.YtoigogonccjagaaDoor
open Go Go.Sl Go.Jn
attribute [local irreducible] LooksAt sumB sumF

structure Jl where
  p : Nat
  fr : Nat
  count : Nat
  epoch : Nat
  opn : Bool
  B : Bs
  used : Nat
  recs : List (Value × Bs)
  adds : List (Value × Bs)
  front : Nat
def hd (l : List (Value × Bs)) : List Value := l.map (·.1)
@[simp] theorem hd_length (l : List (Value × Bs)) : (hd l).length = l.length := by simp [hd]
theorem hd_app (l m : List (Value × Bs)) : hd (l ++ m) = hd l ++ hd m := by simp [hd]
theorem hd_at (l : List (Value × Bs)) (i : Nat) (h : i < l.length) : (hd l)[((i : Nat) : Int).toNat * 1]? = some l[i].1 := by
  rw [Int.toNat_natCast, Nat.mul_one]; simp [hd, h]
def jcells (J : Jl) (vB vR vA : Value) : List Value := [ptr J.p, int ((J.fr : Nat) : Int), int ((J.count : Nat) : Int), int ((J.epoch : Nat) : Int), bool J.opn, vB, int ((J.used : Nat) : Int), vR, vA, int ((J.front : Nat) : Int)]
abbrev jblk (r : Nat) (J : Jl) (vB vR vA : Value) : Assn := blk r [ptr J.p, int ((J.fr : Nat) : Int), int ((J.count : Nat) : Int), int ((J.epoch : Nat) : Int), bool J.opn, vB, int ((J.used : Nat) : Int), vR, vA, int ((J.front : Nat) : Int)] 30
def jr (r : Nat) (J : Jl) : Assn := Sl.ex fun vB : Value => Sl.ex fun vR : Value => Sl.ex fun vA : Value => star [jblk r J vB vR vA, sl vB 5 1 J.B.length (bytesV J.B), sl vR 22 1 J.recs.length (hd J.recs), sl vA 22 1 J.adds.length (hd J.adds), bods 5 (J.recs ++ J.adds)]
section
variable {F : List Assn} {r : Nat} {J : Jl} {w : World} {A : Assn}
theorem jr_open (hs : Sat (jr r J :: F) w) : ∃ vB vR vA, Sat (jblk r J vB vR vA :: sl vB 5 1 J.B.length (bytesV J.B) :: sl vR 22 1 J.recs.length (hd J.recs) :: sl vA 22 1 J.adds.length (hd J.adds) :: bods 5 (J.recs ++ J.adds) :: F) w := by
  obtain ⟨vB, hs⟩ := Sat.ex_iff.1 hs
  obtain ⟨vR, hs⟩ := Sat.ex_iff.1 hs
  obtain ⟨vA, hs⟩ := Sat.ex_iff.1 hs
  exact ⟨vB, vR, vA, hs.unstar⟩
theorem jr_shut {vB vR vA : Value} (hs : Sat (jblk r J vB vR vA :: sl vB 5 1 J.B.length (bytesV J.B) :: sl vR 22 1 J.recs.length (hd J.recs) :: sl vA 22 1 J.adds.length (hd J.adds) :: bods 5 (J.recs ++ J.adds) :: F) w) : Sat (jr r J :: F) w :=
  Sat.ex_iff.2 ⟨vB, Sat.ex_iff.2 ⟨vR, Sat.ex_iff.2 ⟨vA, Sat.restar (l := [_, _, _, _, _]) hs⟩⟩⟩
theorem jr_open2 (hs : Sat (A :: jr r J :: F) w) : ∃ vB vR vA, Sat (A :: jblk r J vB vR vA :: sl vB 5 1 J.B.length (bytesV J.B) :: sl vR 22 1 J.recs.length (hd J.recs) :: sl vA 22 1 J.adds.length (hd J.adds) :: bods 5 (J.recs ++ J.adds) :: F) w := by
  obtain ⟨vB, vR, vA, h⟩ := jr_open hs.swap
  exact ⟨vB, vR, vA, h.pickF 6 [5, 0, 1, 2, 3, 4] rfl rfl⟩
theorem jr_shut2 {vB vR vA : Value} (hs : Sat (A :: jblk r J vB vR vA :: sl vB 5 1 J.B.length (bytesV J.B) :: sl vR 22 1 J.recs.length (hd J.recs) :: sl vA 22 1 J.adds.length (hd J.adds) :: bods 5 (J.recs ++ J.adds) :: F) w) : Sat (A :: jr r J :: F) w :=
  (jr_shut (hs.pickF 6 [1, 2, 3, 4, 5, 0] rfl rfl)).swap
end
theorem none_spec {F : List Assn} {G : List Value → List Assn} {r p : Nat} {cs : List Value} {w : World} (hs : Sat F w) [hA : At F r (ptr p :: cs) 30 G] :
    Ret Tryd.prog 30 [ptr r] w fun v w' => v = bool false ∧ w' = w := by
  refine Ret.enter [(true, ptr r)] _ Tryd.func30 rfl Tryd.ntmps30 rfl ?_
  repeat (first | (refine MC.run1 tab 1000 rfl rfl (by first | exact True.intro | (simp only [Conds, rng, Int.toNat_natCast, List.length_append, bytesV_length] <;> omega) | (simp [Conds, rng] <;> omega) | (simp only [Conds, rng, wrap_u8, wrap_u16, wrap_u32, wrap_u64] <;> omega)) ?_) | (refine MC.la true (la_load1 hs rfl (by rfl)) rfl ?_) | (refine MC.part rfl rfl (fun h => absurd h (by first | decide | omega)) (fun _ => ?_)) | (refine MC.part rfl rfl (fun _ => ?_) (fun h => absurd (by first | decide | omega) h)) | (refine MC.cond rfl (fun h => absurd h (by first | decide | omega)) (fun _ => ?_)) | (refine MC.cond rfl (fun _ => ?_) (fun h => absurd (by first | decide | omega) h)))
  refine MC.ret rfl ?_
  exact ⟨rfl, rfl⟩
theorem added_spec {F : List Assn} {r : Nat} {J : Jl} {w : World} (hs : Sat (jr r J :: F) w) :
    Ret Tryd.prog 12 [ptr r] w fun v w' => v = int ((J.adds.length : Nat) : Int) ∧ w' = w := by
  obtain ⟨vB, vR, vA, hs⟩ := jr_open hs
  obtain ⟨_, qA, cA, rfl, _⟩ := (hs.pull 3 rfl).sl_len
  have hn := none_spec (r := r) hs
  refine Ret.enter [(true, ptr r)] _ Tryd.func12 rfl Tryd.ntmps12 rfl ?_
  repeat (first | (refine MC.run1 tab 1000 rfl rfl (by first | exact True.intro | (simp only [Conds, rng, Int.toNat_natCast, List.length_append, bytesV_length] <;> omega) | (simp [Conds, rng] <;> omega) | (simp only [Conds, rng, wrap_u8, wrap_u16, wrap_u32, wrap_u64] <;> omega)) ?_) | (refine MC.la true (la_load1 hs rfl (by rfl)) rfl ?_) | (refine MC.part rfl rfl (fun h => absurd h (by first | decide | omega)) (fun _ => ?_)) | (refine MC.part rfl rfl (fun _ => ?_) (fun h => absurd (by first | decide | omega) h)) | (refine MC.cond rfl (fun h => absurd h (by first | decide | omega)) (fun _ => ?_)) | (refine MC.cond rfl (fun _ => ?_) (fun h => absurd (by first | decide | omega) h)))
  refine MC.does true (does_call rfl (hn)) rfl ?_
  rintro _ w ⟨rfl, rfl⟩
  repeat (first | (refine MC.run1 tab 1000 rfl rfl (by first | exact True.intro | (simp only [Conds, rng, Int.toNat_natCast, List.length_append, bytesV_length] <;> omega) | (simp [Conds, rng] <;> omega) | (simp only [Conds, rng, wrap_u8, wrap_u16, wrap_u32, wrap_u64] <;> omega)) ?_) | (refine MC.la true (la_load1 hs rfl (by rfl)) rfl ?_) | (refine MC.part rfl rfl (fun h => absurd h (by first | decide | omega)) (fun _ => ?_)) | (refine MC.part rfl rfl (fun _ => ?_) (fun h => absurd (by first | decide | omega) h)) | (refine MC.cond rfl (fun h => absurd h (by first | decide | omega)) (fun _ => ?_)) | (refine MC.cond rfl (fun _ => ?_) (fun h => absurd (by first | decide | omega) h)))
  refine MC.ret rfl ?_
  exact ⟨rfl, rfl⟩
theorem used_spec {F : List Assn} {r : Nat} {J : Jl} {w : World} (hs : Sat (jr r J :: F) w) :
    Ret Tryd.prog 13 [ptr r] w fun v w' => v = int ((J.used : Nat) : Int) ∧ w' = w := by
  obtain ⟨vB, vR, vA, hs⟩ := jr_open hs
  have hn := none_spec (r := r) hs
  refine Ret.enter [(true, ptr r)] _ Tryd.func13 rfl Tryd.ntmps13 rfl ?_
  repeat (first | (refine MC.run1 tab 1000 rfl rfl (by first | exact True.intro | (simp only [Conds, rng, Int.toNat_natCast, List.length_append, bytesV_length] <;> omega) | (simp [Conds, rng] <;> omega) | (simp only [Conds, rng, wrap_u8, wrap_u16, wrap_u32, wrap_u64] <;> omega)) ?_) | (refine MC.la true (la_load1 hs rfl (by rfl)) rfl ?_) | (refine MC.part rfl rfl (fun h => absurd h (by first | decide | omega)) (fun _ => ?_)) | (refine MC.part rfl rfl (fun _ => ?_) (fun h => absurd (by first | decide | omega) h)) | (refine MC.cond rfl (fun h => absurd h (by first | decide | omega)) (fun _ => ?_)) | (refine MC.cond rfl (fun _ => ?_) (fun h => absurd (by first | decide | omega) h)))
  refine MC.does true (does_call rfl (hn)) rfl ?_
  rintro _ w ⟨rfl, rfl⟩
  repeat (first | (refine MC.run1 tab 1000 rfl rfl (by first | exact True.intro | (simp only [Conds, rng, Int.toNat_natCast, List.length_append, bytesV_length] <;> omega) | (simp [Conds, rng] <;> omega) | (simp only [Conds, rng, wrap_u8, wrap_u16, wrap_u32, wrap_u64] <;> omega)) ?_) | (refine MC.la true (la_load1 hs rfl (by rfl)) rfl ?_) | (refine MC.part rfl rfl (fun h => absurd h (by first | decide | omega)) (fun _ => ?_)) | (refine MC.part rfl rfl (fun _ => ?_) (fun h => absurd (by first | decide | omega) h)) | (refine MC.cond rfl (fun h => absurd h (by first | decide | omega)) (fun _ => ?_)) | (refine MC.cond rfl (fun _ => ?_) (fun h => absurd (by first | decide | omega) h)))
  refine MC.ret rfl ?_
  exact ⟨rfl, rfl⟩
theorem front_spec {F : List Assn} {G : List Value → List Assn} {r p : Nat} {a b c d e f g h : Value} {n : Nat} {w : World} (hs : Sat F w) [hA : At F r [ptr p, a, b, c, d, e, f, g, h, int ((n : Nat) : Int)] 30 G] :
    Ret Tryd.prog 14 [ptr r] w fun v w' => v = int ((n : Nat) : Int) ∧ w' = w := by
  have hn := none_spec (r := r) hs
  refine Ret.enter [(true, ptr r)] _ Tryd.func14 rfl Tryd.ntmps14 rfl ?_
  repeat (first | (refine MC.run1 tab 1000 rfl rfl (by first | exact True.intro | (simp only [Conds, rng, Int.toNat_natCast, List.length_append, bytesV_length] <;> omega) | (simp [Conds, rng] <;> omega) | (simp only [Conds, rng, wrap_u8, wrap_u16, wrap_u32, wrap_u64] <;> omega)) ?_) | (refine MC.la true (la_load1 hs rfl (by rfl)) rfl ?_) | (refine MC.part rfl rfl (fun h => absurd h (by first | decide | omega)) (fun _ => ?_)) | (refine MC.part rfl rfl (fun _ => ?_) (fun h => absurd (by first | decide | omega) h)) | (refine MC.cond rfl (fun h => absurd h (by first | decide | omega)) (fun _ => ?_)) | (refine MC.cond rfl (fun _ => ?_) (fun h => absurd (by first | decide | omega) h)))
  refine MC.does true (does_call rfl (hn)) rfl ?_
  rintro _ w ⟨rfl, rfl⟩
  repeat (first | (refine MC.run1 tab 1000 rfl rfl (by first | exact True.intro | (simp only [Conds, rng, Int.toNat_natCast, List.length_append, bytesV_length] <;> omega) | (simp [Conds, rng] <;> omega) | (simp only [Conds, rng, wrap_u8, wrap_u16, wrap_u32, wrap_u64] <;> omega)) ?_) | (refine MC.la true (la_load1 hs rfl (by rfl)) rfl ?_) | (refine MC.part rfl rfl (fun h => absurd h (by first | decide | omega)) (fun _ => ?_)) | (refine MC.part rfl rfl (fun _ => ?_) (fun h => absurd (by first | decide | omega) h)) | (refine MC.cond rfl (fun h => absurd h (by first | decide | omega)) (fun _ => ?_)) | (refine MC.cond rfl (fun _ => ?_) (fun h => absurd (by first | decide | omega) h)))
  refine MC.ret rfl ?_
  exact ⟨rfl, rfl⟩
/-- Copies of the bodies that are committed. -/
theorem records_spec {F : List Assn} {G : List Value → List Assn} {r p : Nat} {a b c d e f vR h i : Value} {recs : List (Value × Bs)} {w : World} (hs : Sat F w) [hA : At F r [ptr p, a, b, c, d, e, f, vR, h, i] 30 G]
    (hR : RdS F 1 vR recs.length (hd recs)) (hb : ∀ x ∈ recs, RdS F 1 x.1 x.2.length (bytesV x.2) ∧ x.2.length ≤ 1000000) (hl : recs.length ≤ 1000000) :
    Ret Tryd.prog 11 [ptr r] w fun v w' => ∃ out : List (Value × Bs), out.map (·.2) = recs.map (·.2) ∧ Sat (sl v 22 1 out.length (hd out) :: bods 5 out :: F) w' := by
  have hn := none_spec (r := r) hs
  obtain ⟨qR, cR, rfl, hcR, _⟩ := hR.shape
  refine Ret.enter [(true, ptr r)] _ Tryd.func11 rfl Tryd.ntmps11 rfl ?_
  repeat (first | (refine MC.run1 tab 1000 rfl rfl (by first | exact True.intro | (simp only [Conds, rng, Int.toNat_natCast, List.length_append, bytesV_length] <;> omega) | (simp [Conds, rng] <;> omega) | (simp only [Conds, rng, wrap_u8, wrap_u16, wrap_u32, wrap_u64] <;> omega)) ?_) | (refine MC.la true (la_load1 hs rfl (by rfl)) rfl ?_) | (refine MC.part rfl rfl (fun h => absurd h (by first | decide | omega)) (fun _ => ?_)) | (refine MC.part rfl rfl (fun _ => ?_) (fun h => absurd (by first | decide | omega) h)) | (refine MC.cond rfl (fun h => absurd h (by first | decide | omega)) (fun _ => ?_)) | (refine MC.cond rfl (fun _ => ?_) (fun h => absurd (by first | decide | omega) h)))
  refine MC.does true (does_call rfl (hn)) rfl ?_
  rintro _ w ⟨rfl, rfl⟩
  repeat (first | (refine MC.run1 tab 1000 rfl rfl (by first | exact True.intro | (simp only [Conds, rng, Int.toNat_natCast, List.length_append, bytesV_length] <;> omega) | (simp [Conds, rng] <;> omega) | (simp only [Conds, rng, wrap_u8, wrap_u16, wrap_u32, wrap_u64] <;> omega)) ?_) | (refine MC.la true (la_load1 hs rfl (by rfl)) rfl ?_) | (refine MC.part rfl rfl (fun h => absurd h (by first | decide | omega)) (fun _ => ?_)) | (refine MC.part rfl rfl (fun _ => ?_) (fun h => absurd (by first | decide | omega) h)) | (refine MC.cond rfl (fun h => absurd h (by first | decide | omega)) (fun _ => ?_)) | (refine MC.cond rfl (fun _ => ?_) (fun h => absurd (by first | decide | omega) h)))
  have hs0 : Sat (sl (.slice none 0 0) 22 1 ([] : List (Value × Bs)).length (hd []) :: bods 5 [] :: F) w := (bods_nil hs).sl_nil _ _
  refine MC.loop (σ := Nat × Value × List (Value × Bs)) (fun x => [(0, true, ptr r), (3, true, x.2.1), (11, true, .slice qR recs.length cR), (12, true, int ((recs.length : Nat) : Int)), (13, true, int ((x.1 : Nat) : Int))])
    (fun x w => x.1 ≤ recs.length ∧ x.2.2.map (·.2) = (recs.take x.1).map (·.2) ∧ Sat (sl x.2.1 22 1 x.2.2.length (hd x.2.2) :: bods 5 x.2.2 :: F) w) (fun x => recs.length - x.1) (0, .slice none 0 0, []) (by repeat (first | exact trivial | refine ⟨rfl, ?_⟩)) ⟨Nat.zero_le _, rfl, hs0⟩ ?_
  rintro ⟨j, v, out⟩ w hx
  clear hs hs0
  replace hx : j ≤ recs.length ∧ out.map (·.2) = (recs.take j).map (·.2) ∧ Sat (sl v 22 1 out.length (hd out) :: bods 5 out :: F) w := hx
  obtain ⟨hj, ho, hs⟩ := hx
  dsimp only []
  have hol : out.length = j := by
    have := congrArg List.length ho
    simpa [Nat.min_eq_left hj] using this
  rcases Nat.lt_or_ge j recs.length with hlt | hge
  · obtain ⟨bR, oR, rfl, hrR⟩ := hR.at_ (by omega)
    obtain ⟨hrb, hbl⟩ := hb recs[j] (List.getElem_mem hlt)
    obtain ⟨qb, cb, ehd, hcb, _⟩ := hrb.shape
    have hat := hd_at recs j hlt
    rw [ehd] at hat hrb
    repeat (first | (refine MC.run1 tab 1000 rfl rfl (by first | exact True.intro | (simp only [Conds, rng, Int.toNat_natCast, List.length_append, bytesV_length] <;> omega) | (simp [Conds, rng] <;> omega) | (simp only [Conds, rng, wrap_u8, wrap_u16, wrap_u32, wrap_u64] <;> omega)) ?_) | (refine MC.la true (la_load1 hs rfl (by rfl)) rfl ?_) | (refine MC.part rfl rfl (fun h => absurd h (by first | decide | omega)) (fun _ => ?_)) | (refine MC.part rfl rfl (fun _ => ?_) (fun h => absurd (by first | decide | omega) h)) | (refine MC.cond rfl (fun h => absurd h (by first | decide | omega)) (fun _ => ?_)) | (refine MC.cond rfl (fun _ => ?_) (fun h => absurd (by first | decide | omega) h)))
    refine MC.la true (la_load1_rd hrR hs (j := ((j : Nat) : Int).toNat * 1) rfl hat) rfl ?_
    repeat (first | (refine MC.run1 tab 1000 rfl rfl (by first | exact True.intro | (simp only [Conds, rng, Int.toNat_natCast, List.length_append, bytesV_length] <;> omega) | (simp [Conds, rng] <;> omega) | (simp only [Conds, rng, wrap_u8, wrap_u16, wrap_u32, wrap_u64] <;> omega)) ?_) | (refine MC.la true (la_load1 hs rfl (by rfl)) rfl ?_) | (refine MC.part rfl rfl (fun h => absurd h (by first | decide | omega)) (fun _ => ?_)) | (refine MC.part rfl rfl (fun _ => ?_) (fun h => absurd (by first | decide | omega) h)) | (refine MC.cond rfl (fun h => absurd h (by first | decide | omega)) (fun _ => ?_)) | (refine MC.cond rfl (fun _ => ?_) (fun h => absurd (by first | decide | omega) h)))
    refine MC.does true (does_buildSlice0 hs) rfl ?_
    rintro _ w ⟨b1, rfl, hs⟩
    have hs : Sat (sl (.slice (some ⟨b1, 0, none⟩) 0 0) 5 1 0 [] :: sl v 22 1 out.length (hd out) :: bods 5 out :: F) w := Sat.sl_mk (xs := []) (spare := []) hs (Nat.le_refl _) rfl rfl
    repeat (first | (refine MC.run1 tab 1000 rfl rfl (by first | exact True.intro | (simp only [Conds, rng, Int.toNat_natCast, List.length_append, bytesV_length] <;> omega) | (simp [Conds, rng] <;> omega) | (simp only [Conds, rng, wrap_u8, wrap_u16, wrap_u32, wrap_u64] <;> omega)) ?_) | (refine MC.la true (la_load1 hs rfl (by rfl)) rfl ?_) | (refine MC.part rfl rfl (fun h => absurd h (by first | decide | omega)) (fun _ => ?_)) | (refine MC.part rfl rfl (fun _ => ?_) (fun h => absurd (by first | decide | omega) h)) | (refine MC.cond rfl (fun h => absurd h (by first | decide | omega)) (fun _ => ?_)) | (refine MC.cond rfl (fun _ => ?_) (fun h => absurd (by first | decide | omega) h)))
    refine MC.does true (does_append hs rfl rfl (RdS.src hrb (bytesV_one _)) (by omega) (by omega)) rfl ?_
    intro vn w hs
    rw [Nat.zero_add, List.nil_append] at hs
    obtain ⟨_, qn, cn, rfl, _⟩ := hs.sl_len
    refine MC.does true (does_buildL hs rfl rfl rfl (by first | (intro u hu; simp only [List.mem_cons, List.not_mem_nil, or_false] at hu; rcases hu with rfl | rfl | rfl | rfl | rfl | rfl | rfl | rfl <;> rfl) | (intro u hu; simp only [List.mem_cons, List.not_mem_nil, or_false] at hu; rcases hu with rfl | rfl | rfl | rfl <;> rfl) | (intro u hu; simp only [List.mem_cons, List.not_mem_nil, or_false] at hu; rcases hu with rfl | rfl <;> rfl) | (intro u hu; simp only [List.mem_cons, List.not_mem_nil, or_false] at hu; subst hu; rfl)) rfl) rfl ?_; rintro _ w ⟨b2, rfl, hs⟩
    refine MC.does true (does_append hs rfl rfl (src_at rfl (by first | (intro u hu; simp only [List.mem_cons, List.not_mem_nil, or_false] at hu; rcases hu with rfl | rfl | rfl | rfl | rfl | rfl | rfl | rfl <;> rfl) | (intro u hu; simp only [List.mem_cons, List.not_mem_nil, or_false] at hu; rcases hu with rfl | rfl | rfl | rfl <;> rfl) | (intro u hu; simp only [List.mem_cons, List.not_mem_nil, or_false] at hu; rcases hu with rfl | rfl <;> rfl) | (intro u hu; simp only [List.mem_cons, List.not_mem_nil, or_false] at hu; subst hu; rfl))) (by omega) (by omega)) rfl ?_
    intro va w hs
    repeat (first | (refine MC.run1 tab 1000 rfl rfl (by first | exact True.intro | (simp only [Conds, rng, Int.toNat_natCast, List.length_append, bytesV_length] <;> omega) | (simp [Conds, rng] <;> omega) | (simp only [Conds, rng, wrap_u8, wrap_u16, wrap_u32, wrap_u64] <;> omega)) ?_) | (refine MC.la true (la_load1 hs rfl (by rfl)) rfl ?_) | (refine MC.part rfl rfl (fun h => absurd h (by first | decide | omega)) (fun _ => ?_)) | (refine MC.part rfl rfl (fun _ => ?_) (fun h => absurd (by first | decide | omega) h)) | (refine MC.cond rfl (fun h => absurd h (by first | decide | omega)) (fun _ => ?_)) | (refine MC.cond rfl (fun _ => ?_) (fun h => absurd (by first | decide | omega) h)))
    refine MC.again (j + 1, va, out ++ [(.slice qn recs[j].2.length cn, recs[j].2)]) (by repeat (first | exact trivial | refine ⟨rfl, ?_⟩)) ⟨hlt, ?_, ?_⟩ (by show recs.length - (j + 1) < recs.length - j; omega)
    · show (out ++ [((Value.slice qn recs[j].2.length cn : Value), recs[j].2)]).map (fun x => x.2) = (recs.take (j + 1)).map (·.2)
      rw [List.take_add_one, List.getElem?_eq_getElem hlt, List.map_append, List.map_append, ho]; rfl
    · show Sat (sl va _ 1 (out ++ [((Value.slice qn recs[j].2.length cn : Value), recs[j].2)]).length (hd (out ++ [((Value.slice qn recs[j].2.length cn : Value), recs[j].2)])) :: bods _ (out ++ [((Value.slice qn recs[j].2.length cn : Value), recs[j].2)]) :: F) w
      have e1 : (out ++ [((Value.slice qn recs[j].2.length cn), recs[j].2)]).length = out.length + 1 := by simp
      rw [e1, hd_app]
      have h3 : Sat (sl (.slice qn recs[j].2.length cn) 5 1 recs[j].2.length (bytesV recs[j].2) :: bods 5 out :: sl va 22 1 (out.length + 1) (hd out ++ [.slice qn recs[j].2.length cn]) :: F) w := hs.tail.pickF 3 [0, 2, 1] rfl rfl
      exact (bods_snoc h3).swap
  · obtain rfl : j = recs.length := by omega
    rw [List.take_length] at ho
    repeat (first | (refine MC.run1 tab 1000 rfl rfl (by first | exact True.intro | (simp only [Conds, rng, Int.toNat_natCast, List.length_append, bytesV_length] <;> omega) | (simp [Conds, rng] <;> omega) | (simp only [Conds, rng, wrap_u8, wrap_u16, wrap_u32, wrap_u64] <;> omega)) ?_) | (refine MC.la true (la_load1 hs rfl (by rfl)) rfl ?_) | (refine MC.part rfl rfl (fun h => absurd h (by first | decide | omega)) (fun _ => ?_)) | (refine MC.part rfl rfl (fun _ => ?_) (fun h => absurd (by first | decide | omega) h)) | (refine MC.cond rfl (fun h => absurd h (by first | decide | omega)) (fun _ => ?_)) | (refine MC.cond rfl (fun _ => ?_) (fun h => absurd (by first | decide | omega) h)))
    refine MC.ret rfl ?_
    exact ⟨out, ho, hs⟩
end Go.Proofs.YtoigogonccjagaaDoor
