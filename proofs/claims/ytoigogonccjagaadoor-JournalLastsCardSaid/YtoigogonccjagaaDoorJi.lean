/- Journals of the laws: six sectors from 1 on, on a device of eight that stands. -/
import Derived.Test.YtoigogonccjagaaDoorJh
set_option linter.unusedVariables false
set_option linter.unusedSimpArgs false
namespace Go.Proofs.YtoigogonccjagaaDoor
open Go Go.Sl Go.Jn
attribute [local irreducible] LooksAt sumB sumF

/-- What bodies need. -/
def szB (l : List Bs) : Nat := (l.map fun b => 14 + b.length).sum
theorem recsB_sz (e n : Nat) (l : List Bs) : (recsB e n l).length = szB l := recsB_length e l n
theorem szB_app (a b : List Bs) : szB (a ++ b) = szB a + szB b := by simp [szB]
theorem szB_one (b : Bs) : szB [b] = 14 + b.length := by simp [szB]
theorem szB_nil : szB [] = 0 := rfl
theorem szB_few : ∀ l : List Bs, l.length * 14 ≤ szB l
  | [] => Nat.zero_le _
  | b :: l => by
    have := szB_few l
    have e : szB (b :: l) = 14 + b.length + szB l := by simp [szB]
    rw [e, List.length_cons]; omega
theorem szB_mem : ∀ {l : List Bs} {b : Bs}, b ∈ l → 14 + b.length ≤ szB l
  | a :: l, b, h => by
    have e : szB (a :: l) = 14 + a.length + szB l := by simp [szB]
    rcases List.mem_cons.1 h with rfl | h
    · omega
    · have := szB_mem h; omega
/-- The bytes of the law's sectors behind records. -/
def lies (D : Dev) (B : Bs) : Prop := ∀ k, k < 6 → D.S.getD (1 + k) [] = chunk B k
/-- A device that stands. -/
structure Dok (D : Dev) : Prop where
  ok : D.ok
  len : D.S.length = 8
  noO : D.O = []
  fuse : D.fuse = 0
theorem wrs_laid (D : Dev) (f : Nat → Bs) (k : Nat) (hO : D.O = []) : ∀ n, k + n ≤ D.S.length → ∀ j, (laid (D.wrs f k n).S (D.wrs f k n).O).getD j [] = if k ≤ j ∧ j < k + n then f (j - k) else D.S.getD j []
  | 0, _, j => by
    show (laid D.S D.O).getD j [] = _
    rw [hO, if_neg (by omega)]; rfl
  | n + 1, h, j => by
    have ih := wrs_laid D f k hO n (by omega) j
    have e : laid (D.wrs f k (n + 1)).S (D.wrs f k (n + 1)).O = (laid (D.wrs f k n).S (D.wrs f k n).O).set (k + n) (f n) := by
      show laid (D.wrs f k n).S ((D.wrs f k n).O ++ [(k + n, f n)]) = _
      rw [laid_append]; rfl
    have hl : (laid (D.wrs f k n).S (D.wrs f k n).O).length = D.S.length := by rw [laid_length, Dev.wrs_S]
    rw [e, List.getD_eq_getElem?_getD]
    by_cases hj : j = k + n
    · subst hj
      rw [List.getElem?_set_self (by rw [hl]; omega), if_pos ⟨by omega, by omega⟩, show k + n - k = n by omega]; rfl
    · rw [List.getElem?_set_ne (fun h => hj h.symm), ← List.getD_eq_getElem?_getD, ih]
      by_cases hc : k ≤ j ∧ j < k + n
      · rw [if_pos hc, if_pos ⟨hc.1, by omega⟩]
      · rw [if_neg hc, if_neg (by omega)]
theorem Dok.burst {D : Dev} (h : Dok D) {f : Nat → Bs} {k n : Nat} (hk : k + n ≤ 8) (hf : ∀ i, (f i).length = 256) : Dok (D.wrs f k n).sync :=
  { ok := Dev.sync_ok (Dev.wrs_ok h.ok hf n (by rw [h.len]; exact hk))
    len := by
      show (laid _ _).length = 8
      rw [laid_length, Dev.wrs_S]; exact h.len
    noO := rfl
    fuse := by
      show burnt _ = 0
      rw [wrs_alive h.fuse]; rfl }
theorem burst_at {D : Dev} (h : Dok D) {f : Nat → Bs} {k n : Nat} (hk : k + n ≤ 8) (j : Nat) : (D.wrs f k n).sync.S.getD j [] = if k ≤ j ∧ j < k + n then f (j - k) else D.S.getD j [] :=
  wrs_laid D f k h.noO n (by rw [h.len]; exact hk) j
theorem part_nil (k : Nat) : part [] k = [] := by simp [part]
theorem chunk_nil (k : Nat) : chunk [] k = many 256 0 := by unfold chunk; rw [part_nil]; rfl
theorem flat_congr {f g : Nat → Bs} : ∀ {l : List Nat}, (∀ k ∈ l, f k = g k) → l.flatMap f = l.flatMap g
  | [], _ => rfl
  | a :: l, h => by rw [List.flatMap_cons, List.flatMap_cons, h a List.mem_cons_self, flat_congr fun k hk => h k (List.mem_cons_of_mem _ hk)]
theorem lies_wiped {D : Dev} (h : Dok D) : lies (D.wrs (fun _ => many 256 0) 1 6).sync [] := fun k hk => by
  rw [burst_at h (by omega), if_pos ⟨by omega, by omega⟩, chunk_nil]
theorem part_take {B : Bs} {u k : Nat} (hu : 256 * k + 256 ≤ u) : part (B.take u) k = part B k := by
  unfold part
  rw [List.drop_take, List.take_take, Nat.min_eq_left (by omega)]
theorem chunk_take {B : Bs} {u k : Nat} (hu : 256 * k + 256 ≤ u) : chunk (B.take u) k = chunk B k := by
  unfold chunk; rw [part_take hu]
theorem chunk_over {B : Bs} {k : Nat} (hu : B.length ≤ 256 * k) : chunk B k = many 256 0 := by
  have e : part B k = [] := by unfold part; rw [List.drop_eq_nil_of_le hu]; rfl
  unfold chunk; rw [e]; rfl
theorem lies_flushed {D : Dev} {B : Bs} {u : Nat} (h : Dok D) (hl : lies D (B.take u)) (hu : u ≤ B.length) (hB : B.length ≤ 1536) : lies (D.wrs (fun n => chunk B (u / 256 + n)) (1 + u / 256) (nWr B u)).sync B := fun k hk => by
  have hn : nWr B u = (B.length + 255) / 256 - u / 256 := rfl
  rw [burst_at h (by omega)]
  by_cases hc : 1 + u / 256 ≤ 1 + k ∧ 1 + k < 1 + u / 256 + nWr B u
  · rw [if_pos hc, show u / 256 + (1 + k - (1 + u / 256)) = k by omega]
  · rw [if_neg hc, hl k hk]
    rcases Nat.lt_or_ge k (u / 256) with h1 | h1
    · exact chunk_take (by omega)
    · have hb : B.length ≤ 256 * k := by omega
      rw [chunk_over hb, chunk_over (by rw [List.length_take]; omega)]
theorem chunk_run (B : Bs) : ∀ n, B.length ≤ 256 * n → (List.range n).flatMap (fun k => chunk B k) = B ++ many (256 * n - B.length) 0
  | 0, h => by
    have : B = [] := List.length_eq_zero_iff.1 (by omega)
    subst this; rfl
  | n + 1, h => by
    rw [List.range_succ, List.flatMap_append, List.flatMap_cons, List.flatMap_nil, List.append_nil]
    rcases Nat.le_total B.length (256 * n) with h1 | h1
    · rw [chunk_run B n h1, chunk_over h1, List.append_assoc]
      simp only [many, List.replicate_append_replicate]
      congr 2; omega
    · have e : (List.range n).flatMap (fun k => chunk B k) = B.take (256 * n) := by
        have h2 := chunk_run (B.take (256 * n)) n (by rw [List.length_take]; omega)
        rw [List.length_take, Nat.min_eq_left h1, Nat.sub_self] at h2
        simp only [many, List.replicate_zero, List.append_nil] at h2
        refine Eq.trans ?_ h2
        exact flat_congr fun k hk => (chunk_take (by have := List.mem_range.1 hk; omega)).symm
      have e2 : part B n = B.drop (256 * n) := by
        unfold part; exact List.take_of_length_le (by rw [List.length_drop]; omega)
      rw [e]; unfold chunk
      rw [e2, ← List.append_assoc, List.take_append_drop, List.length_drop]
      congr 2; omega
theorem lies_run {D : Dev} {B : Bs} (h : Dok D) (hl : lies D B) (hB : B.length ≤ 1536) : D.run 1 6 = B ++ many (1536 - B.length) 0 := by
  refine Eq.trans ?_ (chunk_run B 6 hB)
  unfold Dev.run
  refine flat_congr fun k hk => ?_
  rw [← hl k (List.mem_range.1 hk)]
  unfold Dev.get
  rw [h.noO]; rfl
theorem Dok.redN {D : Dev} (h : Dok D) (n : Nat) : Dok (D.redN n) := ⟨Dev.redN_ok h.ok n, by rw [Dev.redN_S]; exact h.len, by rw [Dev.redN_O]; exact h.noO, by rw [Dev.redN_fuse]; exact h.fuse⟩
theorem lies_redN {D : Dev} {B : Bs} (h : lies D B) (n : Nat) : lies (D.redN n) B := fun k hk => by rw [Dev.redN_S]; exact h k hk
theorem Dok.new8 : Dok (Dev.new 8) := ⟨Dev.new_ok (by decide) (by decide), by simp [Dev.new], rfl, rfl⟩
theorem lose_noO {D : Dev} (h : D.O = []) (kept : List Bool) (torn a : Int) : (D.lose kept torn a).S = D.S := by
  simp [Dev.lose, h, lost]
theorem Dok.lose {D : Dev} (h : Dok D) (kept : List Bool) (torn a : Int) : Dok (D.lose kept torn a) :=
  ⟨Dev.lose_ok h.ok _ _ _, by rw [lose_noO h.noO]; exact h.len, rfl, rfl⟩
theorem lies_lose {D : Dev} {B : Bs} (h : Dok D) (hl : lies D B) (kept : List Bool) (torn a : Int) : lies (D.lose kept torn a) B := fun k hk => by
  rw [lose_noO h.noO]; exact hl k hk

/-- A journal of the laws. -/
structure Jk (J : Jl) (p E : Nat) (R A : List Bs) : Prop where
  p : J.p = p
  fr : J.fr = 1
  count : J.count = 6
  epoch : J.epoch = E
  opn : J.opn = true
  B : J.B = recsB E 1 (R ++ A)
  used : J.used = szB R
  recs : J.recs.map (·.2) = R
  adds : J.adds.map (·.2) = A
  fit : szB (R ++ A) ≤ 1536
  ep : E ≤ 2147483647
  front : ∃ n, J.front = n
theorem Jk.few {J : Jl} {p E : Nat} {R A : List Bs} (h : Jk J p E R A) : J.recs.length + J.adds.length ≤ 1000000 := by
  have h1 := congrArg List.length h.recs
  have h2 := congrArg List.length h.adds
  rw [List.length_map] at h1 h2
  have h3 := szB_few (R ++ A)
  have h4 := h.fit
  rw [List.length_append] at h3
  omega
theorem Jk.nR {J : Jl} {p E : Nat} {R A : List Bs} (h : Jk J p E R A) : J.recs.length = R.length := by rw [← h.recs, List.length_map]
theorem Jk.nA {J : Jl} {p E : Nat} {R A : List Bs} (h : Jk J p E R A) : J.adds.length = A.length := by rw [← h.adds, List.length_map]
def jk (r p E : Nat) (R A : List Bs) : Assn := Sl.ex fun J : {J : Jl // Jk J p E R A} => jr r J.1
section
variable {F : List Assn} {r p E : Nat} {R A : List Bs} {w : World} {X : Assn}
theorem jk_open (hs : Sat (jk r p E R A :: F) w) : ∃ J, Jk J p E R A ∧ Sat (jr r J :: F) w := by
  obtain ⟨J, hs⟩ := Sat.ex_iff.1 hs
  exact ⟨J.1, J.2, hs⟩
theorem jk_shut {J : Jl} (hJ : Jk J p E R A) (hs : Sat (jr r J :: F) w) : Sat (jk r p E R A :: F) w := Sat.ex_iff.2 ⟨⟨J, hJ⟩, hs⟩
theorem jk_open2 (hs : Sat (X :: jk r p E R A :: F) w) : ∃ J, Jk J p E R A ∧ Sat (X :: jr r J :: F) w := by
  obtain ⟨J, hJ, h⟩ := jk_open hs.swap
  exact ⟨J, hJ, h.swap⟩
theorem jk_shut2 {J : Jl} (hJ : Jk J p E R A) (hs : Sat (X :: jr r J :: F) w) : Sat (X :: jk r p E R A :: F) w := (jk_shut hJ hs.swap).swap
end
/-- What Add answers. -/
def addN (sz : Nat) (b : Bs) : Int := if 65535 < b.length then 3 else if 1536 < sz + (14 + b.length) then 190 else 0
theorem addN_zero {sz : Nat} {b : Bs} : addN sz b = 0 ↔ sz + (14 + b.length) ≤ 1536 := by
  unfold addN
  split
  · exact ⟨fun h => absurd h (by decide), fun h => by omega⟩
  · split
    · exact ⟨fun h => absurd h (by decide), fun h => by omega⟩
    · exact ⟨fun _ => by omega, fun _ => rfl⟩
theorem jadd_spec {F : List Assn} {r p E : Nat} {R A : List Bs} {vb : Value} {b : Bs} {w : World} (hs : Sat (jk r p E R A :: F) w) (hx : RdS F 1 vb b.length (bytesV b)) (hbl : b.length ≤ 9223372036854775807) :
    Ret Tryd.prog 9 [ptr r, vb] w fun v w' => v = int (addN (szB (R ++ A)) b) ∧ Sat (jk r p E R (if szB (R ++ A) + (14 + b.length) ≤ 1536 then A ++ [b] else A) :: F) w' := by
  obtain ⟨J, hJ, hs⟩ := jk_open hs
  have hbl2 : J.B.length = szB (R ++ A) := by rw [hJ.B, recsB_sz]
  have e : addE J b = addN (szB (R ++ A)) b := by
    unfold addE addN
    rw [hJ.opn, hJ.count, hbl2, if_neg (by simp)]
  refine (add_spec hs hx hJ.opn (by rw [hJ.count]; decide) (by rw [hbl2, hJ.count]; have := hJ.fit; omega) (by rw [hJ.epoch]; exact hJ.ep) hJ.few hbl).mono ?_
  rintro _ w ⟨rfl, hs⟩
  rw [e] at hs ⊢
  refine ⟨rfl, ?_⟩
  by_cases hz : szB (R ++ A) + (14 + b.length) ≤ 1536
  · rw [if_pos (addN_zero.2 hz)] at hs
    rw [if_pos hz]
    obtain ⟨vn, hs⟩ := hs
    refine jk_shut (J := { J with B := J.B ++ recB J.epoch (J.recs.length + J.adds.length + 1) b, adds := J.adds ++ [(vn, b)] }) ⟨hJ.p, hJ.fr, hJ.count, hJ.epoch, hJ.opn, ?_, hJ.used, hJ.recs, ?_, ?_, hJ.ep, _, rfl⟩ hs
    · show J.B ++ recB J.epoch (J.recs.length + J.adds.length + 1) b = _
      rw [hJ.B, hJ.epoch, hJ.nR, hJ.nA, ← List.append_assoc, recsB_append E (R ++ A) [b] 1, List.length_append, Nat.add_comm 1]
      show _ = _ ++ (recB E (R.length + A.length + 1) b ++ [])
      rw [List.append_nil]
    · show (J.adds ++ [(vn, b)]).map (·.2) = _
      rw [List.map_append, hJ.adds]; rfl
    · rw [← List.append_assoc, szB_app, szB_one]; exact hz
  · rw [if_neg fun h => hz (addN_zero.1 h)] at hs
    rw [if_neg hz]
    exact jk_shut hJ hs
theorem jadded_spec {F : List Assn} {r p E : Nat} {R A : List Bs} {w : World} (hs : Sat (jk r p E R A :: F) w) :
    Ret Tryd.prog 12 [ptr r] w fun v w' => v = int ((A.length : Nat) : Int) ∧ w' = w := by
  obtain ⟨J, hJ, hs⟩ := jk_open hs
  rw [← hJ.nA]
  exact added_spec hs
theorem jused_spec {F : List Assn} {r p E : Nat} {R A : List Bs} {w : World} (hs : Sat (jk r p E R A :: F) w) :
    Ret Tryd.prog 13 [ptr r] w fun v w' => v = int ((szB R : Nat) : Int) ∧ w' = w := by
  obtain ⟨J, hJ, hs⟩ := jk_open hs
  rw [← hJ.used]
  exact used_spec hs
theorem jrecords_spec {F : List Assn} {r p E : Nat} {R A : List Bs} {w : World} (hs : Sat (jk r p E R A :: F) w) :
    Ret Tryd.prog 11 [ptr r] w fun v w' => ∃ out : List (Value × Bs), out.map (·.2) = R ∧ Sat (sl v 22 1 out.length (hd out) :: bods 5 out :: jk r p E R A :: F) w' := by
  obtain ⟨J, hJ, hs⟩ := jk_open hs
  obtain ⟨vB, vR, vA, hs⟩ := jr_open hs
  have hR : RdS (jblk r J vB vR vA :: sl vB 5 1 J.B.length (bytesV J.B) :: sl vR 22 1 J.recs.length (hd J.recs) :: sl vA 22 1 J.adds.length (hd J.adds) :: bods 5 (J.recs ++ J.adds) :: F) 1 vR J.recs.length (hd J.recs) := RdS.up (RdS.of_sl hs.tail.tail)
  have hb : ∀ x ∈ J.recs, RdS (jblk r J vB vR vA :: sl vB 5 1 J.B.length (bytesV J.B) :: sl vR 22 1 J.recs.length (hd J.recs) :: sl vA 22 1 J.adds.length (hd J.adds) :: bods 5 (J.recs ++ J.adds) :: F) 1 x.1 x.2.length (bytesV x.2) ∧ x.2.length ≤ 1000000 := fun x hx => by
    refine ⟨RdS.up (bods_rd hs.tail.tail.tail.tail (List.mem_append_left _ hx)), ?_⟩
    have h1 : x.2 ∈ R ++ A := List.mem_append_left _ (by rw [← hJ.recs]; exact List.mem_map_of_mem hx)
    have := szB_mem h1
    have := hJ.fit
    omega
  refine (records_spec (r := r) hs hR hb (by have := hJ.few; omega)).mono ?_
  rintro v w ⟨out, ho, hs⟩
  refine ⟨out, by rw [ho]; exact hJ.recs, ?_⟩
  have h := jr_shut (J := J) (r := r) (hs.pickF 7 [2, 3, 4, 5, 6, 0, 1] rfl rfl)
  exact (jk_shut hJ h).pickF 3 [1, 2, 0] rfl rfl
theorem jcommit_spec {F : List Assn} {r p E : Nat} {R A : List Bs} {D : Dev} {w : World} (hs : Sat (dev p D :: jk r p E R A :: F) w) (hD : Dok D) (hl : lies D (recsB E 1 R)) :
    Ret Tryd.prog 10 [ptr r] w fun v w' => v = int 0 ∧ ∃ D', Dok D' ∧ lies D' (recsB E 1 (R ++ A)) ∧ Sat (dev p D' :: jk r p E (R ++ A) [] :: F) w' := by
  obtain ⟨J, hJ, hs1⟩ := jk_open2 hs
  clear hs
  have hs := hs1
  clear hs1
  have hB : J.B.length = szB (R ++ A) := by rw [hJ.B, recsB_sz]
  have hap := szB_app R A
  rcases List.eq_nil_or_concat A with rfl | hA
  · refine (commit_empty hs.swap hJ.opn (List.map_eq_nil_iff.1 hJ.adds)).mono ?_
    rintro _ w ⟨rfl, hs⟩
    rw [List.append_nil]
    exact ⟨rfl, D, hD, hl, jk_shut2 hJ hs.swap⟩
  have hpos : 0 < A.length := by obtain ⟨a, b, rfl⟩ := hA; simp
  have hs : Sat (dev J.p D :: jr r J :: F) w := by rw [hJ.p]; exact hs
  refine (commit_spec hs hD.ok (by rw [hD.noO]; decide) (by rw [hJ.fr, hJ.count, hD.len]; decide) (by rw [hB, hJ.count]; have := hJ.fit; omega) (by rw [hJ.used, hB]; omega) hJ.opn (by rw [hJ.nA]; exact hpos) hJ.few (.inl hD.fuse)).mono ?_
  have hu : recsB E 1 R = J.B.take J.used := by
    rw [hJ.B, hJ.used, recsB_append, take_app' (recsB_sz E 1 R)]
  have hput : J.put D (nWr J.B J.used) = D.wrs (fun n => chunk J.B (J.used / 256 + n)) (1 + J.used / 256) (nWr J.B J.used) := by rw [Jl.put, hJ.fr]
  rintro _ w (⟨_, rfl, hs⟩ | ⟨m, _, _, hf, _⟩)
  · rw [hu] at hl
    have hfit := hJ.fit
    have hle : J.used ≤ J.B.length := by rw [hJ.used, hB]; omega
    have hn : nWr J.B J.used = (J.B.length + 255) / 256 - J.used / 256 := rfl
    have h1 := lies_flushed hD hl hle (by omega)
    have h2 := hD.burst (f := fun n => chunk J.B (J.used / 256 + n)) (k := 1 + J.used / 256) (n := nWr J.B J.used) (by omega) (fun i => chunk_length _ _)
    rw [hput] at hs
    have hs := hs.swap
    rw [show dev J.p (D.wrs (fun n => chunk J.B (J.used / 256 + n)) (1 + J.used / 256) (nWr J.B J.used)).sync = dev p (D.wrs (fun n => chunk J.B (J.used / 256 + n)) (1 + J.used / 256) (nWr J.B J.used)).sync by rw [hJ.p]] at hs
    have hs := hs.swap
    refine ⟨rfl, _, h2, ?_, jk_shut2 (J := { J with used := J.B.length, recs := J.recs ++ J.adds, adds := [] }) ⟨hJ.p, hJ.fr, hJ.count, hJ.epoch, hJ.opn, ?_, ?_, ?_, rfl, ?_, hJ.ep, _, rfl⟩ hs⟩
    · rw [← hJ.B]; exact h1
    · show J.B = _
      rw [hJ.B, List.append_nil]
    · exact hB
    · show (J.recs ++ J.adds).map (·.2) = _
      rw [List.map_append, hJ.recs, hJ.adds]
    · rw [List.append_nil]; exact hfit
  · rw [Jl.put, wrs_alive hD.fuse] at hf
    exact absurd hf (by decide)
theorem jk_fresh (p E : Nat) (hE : E ≤ 2147483647) : Jk (Jl.fresh p 1 6 E) p E [] [] := ⟨rfl, rfl, rfl, rfl, rfl, rfl, rfl, rfl, rfl, by decide, hE, _, rfl⟩
theorem jreset_spec {F : List Assn} {r p E e : Nat} {R A : List Bs} {D : Dev} {w : World} (hs : Sat (dev p D :: jk r p E R A :: F) w) (hD : Dok D) (he : E < e) (he2 : e ≤ 2147483647) :
    Ret Tryd.prog 8 [ptr r, int ((e : Nat) : Int)] w fun v w' => v = int 0 ∧ ∃ D', Dok D' ∧ lies D' [] ∧ Sat (dev p D' :: jk r p e [] [] :: F) w' := by
  obtain ⟨J, hJ, hs⟩ := jk_open2 hs
  obtain ⟨vB, vR, vA, hs⟩ := jr_open2 hs
  have hs : Sat (dev p D :: blk r [ptr p, int ((1 : Nat) : Int), int ((6 : Nat) : Int), int ((E : Nat) : Int), bool J.opn, vB, int ((J.used : Nat) : Int), vR, vA, int ((J.front : Nat) : Int)] 30 :: F) w := by
    have h := hs.pickF 6 [0, 1] rfl rfl
    rw [← hJ.p, ← hJ.fr, ← hJ.count, ← hJ.epoch]
    rw [← hJ.p] at h
    exact h
  refine (reset_spec hs hD.ok (by rw [hD.noO]; decide) (by rw [hD.len]; decide) he he2 hD.fuse).mono ?_
  rintro _ w ⟨rfl, hs⟩
  exact ⟨rfl, _, hD.burst (by decide) (fun _ => by simp), lies_wiped hD, jk_shut2 (jk_fresh p e he2) hs⟩
theorem jreset_arg {F : List Assn} {r p E e : Nat} {R A : List Bs} {w : World} (hs : Sat (jk r p E R A :: F) w) (he : e ≤ E) :
    Ret Tryd.prog 8 [ptr r, int ((e : Nat) : Int)] w fun v w' => v = int 2 ∧ w' = w := by
  obtain ⟨J, hJ, hs⟩ := jk_open hs
  obtain ⟨vB, vR, vA, hs⟩ := jr_open hs
  exact reset_arg (r := r) hs (by rw [hJ.epoch]; exact he)
end Go.Proofs.YtoigogonccjagaaDoor
