/-
  Nodes: compared keys, sound, Right | Nodes: page, Bytes
-/
import Derived.Test.YtjlofdodiaklaaaGreatYav
import Derived.Test.YtjlofdodiaklaaaGreatYao
import Derived.Test.YtjlofdodiaklaaaGreatYac
set_option maxHeartbeats 1000000
set_option linter.unusedVariables false
set_option linter.unusedSimpArgs false
namespace Go.Proofs.YtjlofdodiaklaaaGreat
open Go Go.Sl Go.Tr
attribute [local irreducible] LooksAt

theorem cmp_lt : ∀ (a b : Bs), (Lib.compareBytes a b < 0 ↔ ltB a b = true)
  | [], [] => by simp [Lib.compareBytes, ltB]
  | [], _ :: _ => by simp [Lib.compareBytes, ltB]
  | _ :: _, [] => by simp [Lib.compareBytes, ltB]
  | a :: s, b :: t => by
    have ih := cmp_lt s t
    unfold Lib.compareBytes ltB
    have h1 : (a < b) ↔ a.toNat < b.toNat := UInt8.lt_iff_toNat_lt
    have h2 : (b < a) ↔ b.toNat < a.toNat := UInt8.lt_iff_toNat_lt
    by_cases h3 : a.toNat < b.toNat
    · simp [h1, h3]
    · by_cases h4 : b.toNat < a.toNat
      · simp [h1, h2, h3, h4]
      · simp [h1, h2, h3, h4, ih]
theorem cmp_bd : ∀ (a b : Bs), -1 ≤ Lib.compareBytes a b ∧ Lib.compareBytes a b ≤ 1
  | [], [] => by simp [Lib.compareBytes]
  | [], _ :: _ => by simp [Lib.compareBytes]
  | _ :: _, [] => by simp [Lib.compareBytes]
  | a :: s, b :: t => by
    have ih := cmp_bd s t
    unfold Lib.compareBytes
    split
    · decide
    · split
      · decide
      · exact ih
instance extCmp : Ext Tryz.prog 105 Extern.BytealgCompare.compare :=
  ⟨fun args w => run_callFunc_extern Tryz.func105 (by kernel_rfl) (by kernel_rfl) (by kernel_rfl) (by kernel_rfl) args w⟩
theorem bcompare_spec {F : List Assn} {va vb : Value} {n m : Nat} {a b : Bs} {w : World} (hs : Sat F w) (ha : RdS F 1 va n (bytesV a)) (hb : RdS F 1 vb m (bytesV b)) :
    Ret Tryz.prog 89 [va, vb] w fun v w' => v = int (Lib.compareBytes a b) ∧ w' = w := by
  obtain ⟨q, c, rfl, _, _⟩ := ha.shape
  obtain ⟨q', c', rfl, _, _⟩ := hb.shape
  refine Ret.enter [(true, .slice q n c), (true, .slice q' m c')] _ Tryz.func89 rfl Tryz.ntmps89 rfl ?_
  refine zz ?_
  refine MC.does true (does_ext rfl (Post := fun v w' => v = int (Lib.compareBytes a b) ∧ w' = w) ⟨_, _, run_cmp ha hb hs, rfl, rfl⟩) rfl ?_
  rintro _ _ ⟨rfl, rfl⟩
  refine zz ?_
  refine MC.ret rfl ?_
  exact ⟨rfl, rfl⟩
theorem sound1_spec {p : Option Addr} {n c : Nat} {w : World} : Ret Tryz.prog 119 [.slice p n c] w fun v w' => v = bool (decide (16 < n)) ∧ w' = w := by
  refine Ret.enter [(true, .slice p n c)] _ Tryz.func119 rfl Tryz.ntmps119 rfl ?_
  refine zz ?_
  refine MC.ret rfl ?_
  exact ⟨congrArg Value.bool (by rw [decide_eq_decide]; omega), rfl⟩
theorem sound2_spec {k : Nat} {w : World} (hk : k ≤ 100000) : Ret Tryz.prog 121 [int ((k : Nat) : Int)] w fun v w' => v = bool (decide (8192 ≤ k)) ∧ w' = w := by
  refine Ret.enter [(true, int ((k : Nat) : Int))] _ Tryz.func121 rfl Tryz.ntmps121 rfl ?_
  refine zz ?_
  refine MC.ret rfl ?_
  exact ⟨congrArg Value.bool (by rw [decide_eq_decide]; omega), rfl⟩
theorem has1_spec {F : List Assn} {v : Value} {rs : List Value} {ks : List Bs} {w : World} (hs : Sat F w) (hr : Rows F v rs ks) (hn : ks.length ≤ 1000) :
    Ret Tryz.prog 128 [v, .func (.func 119) #[] #[]] w fun u w' => (∃ r : Int, u = int r ∧ (0 ≤ r ↔ ks.any (fun x => decide (16 < x.length)) = true)) ∧ w' = w := by
  obtain ⟨p, c, rfl, hc, hl⟩ := hr.shape
  refine Ret.enter [(true, .slice p ks.length c), (true, .func (.func 119) #[] #[])] _ Tryz.func128 rfl Tryz.ntmps128 rfl ?_
  refine zz ?_
  refine MC.loop (σ := Nat) (fun i => [(0, true, .slice p ks.length c), (1, true, .func (.func 119) #[] #[]), (7, true, int ((ks.length : Nat) : Int)), (8, true, int ((i : Nat) : Int))])
    (fun i w' => i ≤ ks.length ∧ (∀ (j : Nat) (h : j < ks.length), j < i → ks[j].length ≤ 16) ∧ w' = w) (fun i => ks.length - i) 0 (by repeat (first | exact trivial | refine ⟨rfl, ?_⟩)) ⟨Nat.zero_le _, fun j _ h => by omega, rfl⟩ ?_
  rintro i w' ⟨hi, hno, rfl⟩
  rcases Nat.lt_or_ge i ks.length with hlt | hge
  · obtain ⟨b, o, cc, q, c2, hv, hg, hrd, hk⟩ := hr.get hlt
    cases hv
    have hj : rs[((i : Nat) : Int).toNat * 1]? = some (.slice q ks[i].length c2) := by rw [Int.toNat_natCast, Nat.mul_one]; exact hg
    refine zz ?_
    refine MC.la true (la_load1_rd hrd hs (j := ((i : Nat) : Int).toNat * 1) rfl hj) rfl ?_
    refine MC.does true (does_callv (first := []) (capt := []) rfl rfl sound1_spec) rfl ?_
    rintro _ _ ⟨rfl, rfl⟩
    by_cases h16 : 16 < ks[i].length
    · rw [decide_eq_true h16]
      refine zz ?_
      refine MC.ret rfl ?_
      exact ⟨⟨((i : Nat) : Int), rfl, ⟨fun _ => List.any_eq_true.2 ⟨ks[i], List.getElem_mem hlt, by simpa using h16⟩, fun _ => by omega⟩⟩, rfl⟩
    · rw [decide_eq_false h16]
      refine zz ?_
      exact MC.again (i + 1) (by repeat (first | exact trivial | refine ⟨rfl, ?_⟩)) ⟨hlt, fun j h hj => by
        rcases Nat.lt_or_ge j i with h' | h'
        · exact hno j h h'
        · obtain rfl : j = i := by omega
          omega, rfl⟩ (by omega)
  · obtain rfl : i = ks.length := by omega
    refine zz ?_
    refine MC.ret rfl ?_
    refine ⟨⟨-1, rfl, ⟨fun h => by omega, fun h => ?_⟩⟩, rfl⟩
    obtain ⟨x, hx, h2⟩ := List.any_eq_true.1 h
    obtain ⟨j, hj, rfl⟩ := List.mem_iff_getElem.1 hx
    have := hno j hj hj
    simp at h2; omega
theorem has2_spec {F : List Assn} {v : Value} {ks : List Nat} {w : World} (hs : Sat F w) (hr : RdS F 1 v ks.length (bufV ks)) (hn : ks.length ≤ 1000) (hk : ∀ k ∈ ks, k ≤ 100000) :
    Ret Tryz.prog 129 [v, .func (.func 121) #[] #[]] w fun u w' => (∃ r : Int, u = int r ∧ (0 ≤ r ↔ ks.any (fun x => decide (8192 ≤ x)) = true)) ∧ w' = w := by
  obtain ⟨p, c, rfl, hc, hl⟩ := hr.shape
  refine Ret.enter [(true, .slice p ks.length c), (true, .func (.func 121) #[] #[])] _ Tryz.func129 rfl Tryz.ntmps129 rfl ?_
  refine zz ?_
  refine MC.loop (σ := Nat) (fun i => [(0, true, .slice p ks.length c), (1, true, .func (.func 121) #[] #[]), (7, true, int ((ks.length : Nat) : Int)), (8, true, int ((i : Nat) : Int))])
    (fun i w' => i ≤ ks.length ∧ (∀ (j : Nat) (h : j < ks.length), j < i → ks[j] < 8192) ∧ w' = w) (fun i => ks.length - i) 0 (by repeat (first | exact trivial | refine ⟨rfl, ?_⟩)) ⟨Nat.zero_le _, fun j _ h => by omega, rfl⟩ ?_
  rintro i w' ⟨hi, hno, rfl⟩
  rcases Nat.lt_or_ge i ks.length with hlt | hge
  · obtain ⟨b, o, rfl, hrd⟩ := hr.at_ (by omega)
    have hj : (bufV ks)[((i : Nat) : Int).toNat * 1]? = some (int ((ks[i] : Nat) : Int)) := by rw [Int.toNat_natCast, Nat.mul_one]; simp [bufV, hlt]
    refine zz ?_
    refine MC.la true (la_load1_rd hrd hs (j := ((i : Nat) : Int).toNat * 1) rfl hj) rfl ?_
    refine MC.does true (does_callv (first := []) (capt := []) rfl rfl (sound2_spec (hk _ (List.getElem_mem hlt)))) rfl ?_
    rintro _ _ ⟨rfl, rfl⟩
    by_cases h16 : 8192 ≤ ks[i]
    · rw [decide_eq_true h16]
      refine zz ?_
      refine MC.ret rfl ?_
      exact ⟨⟨((i : Nat) : Int), rfl, ⟨fun _ => List.any_eq_true.2 ⟨ks[i], List.getElem_mem hlt, by simpa using h16⟩, fun _ => by omega⟩⟩, rfl⟩
    · rw [decide_eq_false h16]
      refine zz ?_
      exact MC.again (i + 1) (by repeat (first | exact trivial | refine ⟨rfl, ?_⟩)) ⟨hlt, fun j h hj => by
        rcases Nat.lt_or_ge j i with h' | h'
        · exact hno j h h'
        · obtain rfl : j = i := by omega
          omega, rfl⟩ (by omega)
  · obtain rfl : i = ks.length := by omega
    refine zz ?_
    refine MC.ret rfl ?_
    refine ⟨⟨-1, rfl, ⟨fun h => by omega, fun h => ?_⟩⟩, rfl⟩
    obtain ⟨x, hx, h2⟩ := List.any_eq_true.1 h
    obtain ⟨j, hj, rfl⟩ := List.mem_iff_getElem.1 hx
    have := hno j hj hj
    simp at h2; omega
theorem hasv_spec {F : List Assn} {v : Value} {rs : List Value} {ks : List Bs} {w : World} (hs : Sat F w) (hr : Rows F v rs ks) (hn : ks.length ≤ 1000) :
    Ret Tryz.prog 118 [v, .func (.func 119) #[] #[]] w fun u w' => u = bool (ks.any (fun x => decide (16 < x.length))) ∧ w' = w := by
  have hh := has1_spec hs hr hn
  obtain ⟨p, c, rfl, hc, hl⟩ := hr.shape
  refine Ret.enter [(true, .slice p ks.length c), (true, .func (.func 119) #[] #[])] _ Tryz.func118 rfl Tryz.ntmps118 rfl ?_
  refine zz ?_
  refine MC.does true (does_call rfl (hh)) rfl ?_
  rintro _ _ ⟨⟨r, rfl, hr2⟩, rfl⟩
  refine zz ?_
  refine MC.ret rfl ?_
  refine ⟨congrArg Value.bool ?_, rfl⟩
  by_cases h : 0 ≤ r
  · rw [hr2.1 h]; exact decide_eq_true h
  · rw [Bool.eq_false_iff.2 (fun h2 => h (hr2.2 h2))]; exact decide_eq_false h
theorem hask_spec {F : List Assn} {v : Value} {ks : List Nat} {w : World} (hs : Sat F w) (hr : RdS F 1 v ks.length (bufV ks)) (hn : ks.length ≤ 1000) (hk : ∀ k ∈ ks, k ≤ 100000) :
    Ret Tryz.prog 120 [v, .func (.func 121) #[] #[]] w fun u w' => u = bool (ks.any (fun x => decide (8192 ≤ x))) ∧ w' = w := by
  have hh := has2_spec hs hr hn hk
  obtain ⟨p, c, rfl, hc, hl⟩ := hr.shape
  refine Ret.enter [(true, .slice p ks.length c), (true, .func (.func 121) #[] #[])] _ Tryz.func120 rfl Tryz.ntmps120 rfl ?_
  refine zz ?_
  refine MC.does true (does_call rfl (hh)) rfl ?_
  rintro _ _ ⟨⟨r, rfl, hr2⟩, rfl⟩
  refine zz ?_
  refine MC.ret rfl ?_
  refine ⟨congrArg Value.bool ?_, rfl⟩
  by_cases h : 0 ≤ r
  · rw [hr2.1 h]; exact decide_eq_true h
  · rw [Bool.eq_false_iff.2 (fun h2 => h (hr2.2 h2))]; exact decide_eq_false h
theorem rising_adj : ∀ {l : List Bs}, rising l ↔ ∀ (j : Nat) (h : j + 1 < l.length), ltB l[j] l[j + 1] = true
  | [] => ⟨fun _ j h => by simp at h, fun _ => trivial⟩
  | [a] => ⟨fun _ j h => by simp at h, fun _ => trivial⟩
  | a :: b :: l => by
    have ih := rising_adj (l := b :: l)
    show ltB a b = true ∧ rising (b :: l) ↔ _
    rw [ih]
    constructor
    · rintro ⟨h1, h2⟩ j h
      cases j with
      | zero => exact h1
      | succ j => exact h2 j (by simpa using h)
    · intro h
      exact ⟨h 0 (by simp), fun j hj => h (j + 1) (by simpa using hj)⟩
def keyOk (ks : List Bs) (j : Nat) (h : j < ks.length) : Prop := (1 ≤ ks[j].length ∧ ks[j].length ≤ 64) ∧ (0 < j → ltB (ks[j - 1]'(by omega)) ks[j] = true)
theorem keys_ok {ks : List Bs} (h : ∀ (j : Nat) (h : j < ks.length), keyOk ks j h) : (∀ k ∈ ks, 1 ≤ k.length ∧ k.length ≤ 64) ∧ rising ks :=
  ⟨fun k hk => by obtain ⟨j, hj, rfl⟩ := List.mem_iff_getElem.1 hk; exact (h j hj).1, rising_adj.2 fun j hj => (h (j + 1) hj).2 (by omega)⟩
theorem not_sound {n : Nd} {j : Nat} (hj : j < n.keys.length) (h : ¬ keyOk n.keys j hj) : ¬ n.sound := by
  rintro ⟨h1, h2, _⟩
  refine h ⟨h1 _ (List.getElem_mem hj), fun h0 => ?_⟩
  have := rising_adj.1 h2 (j - 1) (by omega)
  simpa [show j - 1 + 1 = j by omega] using this
theorem sound_spec {F : List Assn} {y : NdV} {n : Nd} {w : World} (hs : Sat F w) (hr : NdR F y n) (hkd : ∀ k ∈ n.kids, k ≤ 100000) :
    Ret Tryz.prog 104 [y.val n] w fun v w' => v = bool (decide n.sound) ∧ Sat F w' := by
  have hr0 := hr
  obtain ⟨sk, sv, si, rk, rv⟩ := y
  obtain ⟨hk, hv, hc, ⟨f1, f2, f3⟩, hks, hvs⟩ := hr
  dsimp only [] at hk hv hc f1 f2 f3 hks hvs
  obtain ⟨pk, ck, rfl, hck, _⟩ := hk.shape
  obtain ⟨pv, cv, rfl, hcv, _⟩ := hv.shape
  obtain ⟨pi, ci, rfl, hci, _⟩ := hc.shape
  refine Ret.enter [(true, .agg [bool n.leaf, .slice pk n.keys.length ck, .slice pv n.vals.length cv, .slice pi n.kids.length ci].toArray)] _ Tryz.func104 rfl Tryz.ntmps104 rfl ?_
  refine zz ?_
  refine MC.does true (does_box hs rfl rfl) rfl ?_; rintro _ w ⟨b2, rfl, hs⟩
  refine zz ?_
  refine MC.loop (σ := Nat) (fun i => [(1, true, ptr b2), (6, true, .slice pk n.keys.length ck), (7, true, int ((n.keys.length : Nat) : Int)), (8, true, int ((i : Nat) : Int))])
    (fun i w => i ≤ n.keys.length ∧ (∀ (j : Nat) (h : j < n.keys.length), j < i → keyOk n.keys j h) ∧ Sat (blk b2 [bool n.leaf, .slice pk n.keys.length ck, .slice pv n.vals.length cv, .slice pi n.kids.length ci] 97 :: F) w) (fun i => n.keys.length - i) 0 (by repeat (first | exact trivial | refine ⟨rfl, ?_⟩)) ⟨Nat.zero_le _, fun j _ h => by omega, hs⟩ ?_
  clear hs
  rintro i w ⟨hi, hok, hs⟩
  dsimp only [] at hi hok hs ⊢
  rcases Nat.lt_or_ge i n.keys.length with hlt | hge
  · obtain ⟨b, o, cc, q, c2, hv1, hg, hrd, hk1⟩ := hk.get hlt
    cases hv1
    have hj : rk[((i : Nat) : Int).toNat * 1]? = some (.slice q n.keys[i].length c2) := by rw [Int.toNat_natCast, Nat.mul_one]; exact hg
    have hkl := hks _ (List.getElem_mem hlt)
    refine zz ?_
    refine MC.la true (la_load1_rd hrd hs (j := ((i : Nat) : Int).toNat * 1) rfl hj) rfl ?_
    have hokd : ∀ (hh : keyOk n.keys i hlt) (j : Nat) (h : j < n.keys.length), j < i + 1 → keyOk n.keys j h := fun hh j h hj => by
      rcases Nat.lt_or_ge j i with h' | h'
      · exact hok j h h'
      · obtain rfl : j = i := by omega
        exact hh
    by_cases h1 : n.keys[i].length < 1
    · refine zz ?_
      refine MC.ret rfl ?_
      exact ⟨congrArg Value.bool (decide_eq_false (not_sound hlt fun h => by have := h.1.1; omega)).symm, hs.tail⟩
    · by_cases h2 : 64 < n.keys[i].length
      · refine zz ?_
        refine MC.ret rfl ?_
        exact ⟨congrArg Value.bool (decide_eq_false (not_sound hlt fun h => by have := h.1.2; omega)).symm, hs.tail⟩
      · by_cases h3 : i = 0
        · refine zz ?_
          exact MC.again (i + 1) (by repeat (first | exact trivial | refine ⟨rfl, ?_⟩)) ⟨hlt, hokd ⟨by omega, fun h => by omega⟩, hs⟩ (by omega)
        · obtain ⟨b', o', cc', q', c2', hv1', hg', hrd', hk1'⟩ := hk.get (show i - 1 < n.keys.length by omega)
          cases hv1'
          have hj' : rk[(((i : Nat) : Int) - 1).toNat * 1]? = some (.slice q' n.keys[i - 1].length c2') := by rw [show (((i : Nat) : Int) - 1).toNat * 1 = i - 1 by omega]; exact hg'
          refine zz ?_
          refine MC.la true (la_load1_rd hrd' hs (j := (((i : Nat) : Int) - 1).toNat * 1) rfl hj') rfl ?_
          refine zz ?_
          have hcmp := bcompare_spec hs hk1'.up hk1.up
          refine MC.does true (does_call rfl (hcmp)) rfl ?_
          rintro _ w ⟨rfl, rfl⟩
          have hcl := cmp_lt n.keys[i - 1] n.keys[i]
          have hcb := cmp_bd n.keys[i - 1] n.keys[i]
          by_cases h4 : Lib.compareBytes n.keys[i - 1] n.keys[i] < 0
          · refine zz ?_
            exact MC.again (i + 1) (by repeat (first | exact trivial | refine ⟨rfl, ?_⟩)) ⟨hlt, hokd ⟨by omega, fun h => hcl.1 h4⟩, hs⟩ (by omega)
          · refine zz ?_
            refine MC.ret rfl ?_
            exact ⟨congrArg Value.bool (decide_eq_false (not_sound hlt fun h => h4 (hcl.2 (h.2 (by omega))))).symm, hs.tail⟩
  · obtain rfl : i = n.keys.length := by omega
    obtain ⟨ho1, ho2⟩ := keys_ok fun j h => hok j h h
    refine zz ?_
    refine MC.condB rfl (fun hb => ?_) (fun hb => ?_)
    · have hsd : n.sound ↔ (n.vals.length = n.keys.length ∧ n.kids = [] ∧ ∀ v ∈ n.vals, v.length ≤ 16) := by
        unfold Nd.sound; rw [if_pos hb]; exact ⟨fun h => h.2.2, fun h => ⟨ho1, ho2, h⟩⟩
      by_cases h1 : n.vals.length = n.keys.length
      · by_cases h2 : n.kids.length = 0
        · refine zz ?_
          have hcv := hasv_spec hs hv.up f2
          refine MC.does true (does_call rfl (hcv)) rfl ?_
          rintro _ w ⟨rfl, rfl⟩
          cases hany : (n.vals.any fun x => decide (16 < x.length)) with
          | true =>
            refine zz ?_
            refine MC.ret rfl ?_
            refine ⟨congrArg Value.bool (decide_eq_false fun h => ?_).symm, hs.tail⟩
            obtain ⟨x, hx, h6⟩ := List.any_eq_true.1 hany
            have := (hsd.1 h).2.2 x hx
            simp at h6; omega
          | false =>
            refine zz ?_
            refine MC.ret rfl ?_
            refine ⟨congrArg Value.bool (decide_eq_true (hsd.2 ⟨h1, List.eq_nil_of_length_eq_zero h2, fun v hv => ?_⟩)).symm, hs.tail⟩
            have := List.any_eq_false.1 hany v hv
            simp at this; omega
        · refine zz ?_
          refine MC.ret rfl ?_
          exact ⟨congrArg Value.bool (decide_eq_false fun h => h2 (by rw [(hsd.1 h).2.1]; rfl)).symm, hs.tail⟩
      · refine zz ?_
        refine MC.ret rfl ?_
        exact ⟨congrArg Value.bool (decide_eq_false fun h => h1 (hsd.1 h).1).symm, hs.tail⟩
    · have hsd : n.sound ↔ (n.vals = [] ∧ n.kids.length = n.keys.length + 1 ∧ ∀ k ∈ n.kids, k < 8192) := by
        unfold Nd.sound; rw [if_neg (by rw [hb]; decide)]; exact ⟨fun h => h.2.2, fun h => ⟨ho1, ho2, h⟩⟩
      by_cases h1 : n.vals.length = 0
      · by_cases h2 : n.kids.length = n.keys.length + 1
        · refine zz ?_
          have hck := hask_spec hs hc.up f3 hkd
          refine MC.does true (does_call rfl (hck)) rfl ?_
          rintro _ w ⟨rfl, rfl⟩
          cases hany : (n.kids.any fun x => decide (8192 ≤ x)) with
          | true =>
            refine zz ?_
            refine MC.ret rfl ?_
            refine ⟨congrArg Value.bool (decide_eq_false fun h => ?_).symm, hs.tail⟩
            obtain ⟨x, hx, h6⟩ := List.any_eq_true.1 hany
            have := (hsd.1 h).2.2 x hx
            simp at h6; omega
          | false =>
            refine zz ?_
            refine MC.ret rfl ?_
            refine ⟨congrArg Value.bool (decide_eq_true (hsd.2 ⟨List.eq_nil_of_length_eq_zero h1, h2, fun v hv => ?_⟩)).symm, hs.tail⟩
            have := List.any_eq_false.1 hany v hv
            simp at this; omega
        · refine zz ?_
          refine MC.ret rfl ?_
          exact ⟨congrArg Value.bool (decide_eq_false fun h => h2 (hsd.1 h).2.1).symm, hs.tail⟩
      · refine zz ?_
        refine MC.ret rfl ?_
        exact ⟨congrArg Value.bool (decide_eq_false fun h => h1 (by rw [(hsd.1 h).1]; rfl)).symm, hs.tail⟩
theorem right_spec {F : List Assn} {y : NdV} {n : Nd} {w : World} (hs : Sat F w) (hr : NdR F y n) (hkd : ∀ k ∈ n.kids, k ≤ 100000) :
    Ret Tryz.prog 86 [y.val n] w fun v w' => v = bool (decide n.right) ∧ Sat F w' := by
  have hr0 := hr
  obtain ⟨sk, sv, si, rk, rv⟩ := y
  obtain ⟨hk, hv, hc, ⟨f1, f2, f3⟩, hks, hvs⟩ := hr
  dsimp only [] at hk hv hc f1 f2 f3 hks hvs
  obtain ⟨pk, ck, rfl, hck, _⟩ := hk.shape
  obtain ⟨pv, cv, rfl, hcv, _⟩ := hv.shape
  obtain ⟨pi, ci, rfl, hci, _⟩ := hc.shape
  refine Ret.enter [(true, .agg [bool n.leaf, .slice pk n.keys.length ck, .slice pv n.vals.length cv, .slice pi n.kids.length ci].toArray)] _ Tryz.func86 rfl Tryz.ntmps86 rfl ?_
  refine zz ?_
  refine MC.does true (does_box hs rfl rfl) rfl ?_; rintro _ w ⟨b2, rfl, hs⟩
  refine zz ?_
  refine MC.la true (la_loadV (vs := [bool n.leaf, .slice pk n.keys.length ck, .slice pv n.vals.length cv, .slice pi n.kids.length ci]) hs rfl rfl rfl rfl) rfl ?_
  have hcall := sound_spec hs hr0.up hkd
  refine MC.does true (does_call rfl (hcall)) rfl ?_
  rintro _ w ⟨rfl, hs⟩
  by_cases h1 : n.sound
  · rw [decide_eq_true h1]
    refine zz ?_
    refine MC.la true (la_loadV (vs := [bool n.leaf, .slice pk n.keys.length ck, .slice pv n.vals.length cv, .slice pi n.kids.length ci]) hs rfl rfl rfl rfl) rfl ?_
    refine zz ?_
    have hcall := nsize_spec hs hr0.up
    refine MC.does true (does_call rfl (hcall)) rfl ?_
    rintro _ w ⟨rfl, hs⟩
    refine zz ?_
    refine MC.ret rfl ?_
    refine ⟨congrArg Value.bool ?_, hs.tail⟩
    by_cases h2 : n.size ≤ 256
    · rw [decide_eq_true (show n.right from ⟨h1, h2⟩)]; exact decide_eq_true (by omega)
    · rw [decide_eq_false (show ¬ n.right from fun h => h2 h.2)]; exact decide_eq_false (by omega)
  · rw [decide_eq_false h1]
    refine zz ?_
    refine MC.ret rfl ?_
    exact ⟨congrArg Value.bool (decide_eq_false fun h => h1 h.1).symm, hs.tail⟩
end Go.Proofs.YtjlofdodiaklaaaGreat

namespace Go.Proofs.YtjlofdodiaklaaaGreat
open Go Go.Sl Go.Tr
attribute [local irreducible] LooksAt

def hdrN (n : Nd) : Bs := if n.leaf then [1, UInt8.ofNat n.keys.length] else 2 :: UInt8.ofNat n.keys.length :: two (n.kids.headD 0)
def entN (n : Nd) (j : Nat) : Bs := if n.leaf then UInt8.ofNat (n.keys.getD j []).length :: (n.keys.getD j [] ++ UInt8.ofNat (n.vals.getD j []).length :: n.vals.getD j []) else UInt8.ofNat (n.keys.getD j []).length :: (n.keys.getD j [] ++ two (n.kids.getD (j + 1) 0))
def upN (n : Nd) (i : Nat) : Bs := hdrN n ++ ((List.range i).map (entN n)).flatten
theorem upN_succ (n : Nd) (i : Nat) : upN n (i + 1) = upN n i ++ entN n i := by
  unfold upN; rw [List.range_succ, List.map_append, List.flatten_append]; simp
theorem upN_mono (n : Nd) (i : Nat) : ∀ j, (upN n i).length ≤ (upN n (i + j)).length
  | 0 => Nat.le_refl _
  | j + 1 => by
    have := upN_mono n i j
    rw [show i + (j + 1) = (i + j) + 1 by omega, upN_succ, List.length_append]; omega
theorem flat_cons (f g : Nat → Bs) (n : Nat) (c : Bs) (h0 : f 0 = c) (h : ∀ i, f (i + 1) = g i) : ((List.range (n + 1)).map f).flatten = c ++ ((List.range n).map g).flatten := by
  rw [List.range_succ_eq_map, List.map_cons, List.flatten_cons, h0, List.map_map]
  congr 3
  funext i
  exact h i
theorem cellsL_flat : ∀ {keys vals : List Bs}, vals.length = keys.length → cells true keys vals [] = ((List.range keys.length).map fun j => UInt8.ofNat (keys.getD j []).length :: (keys.getD j [] ++ UInt8.ofNat (vals.getD j []).length :: vals.getD j [])).flatten
  | [], [], _ => rfl
  | k :: keys, v :: vals, hl => by
    have h := cellsL_flat (keys := keys) (vals := vals) (by simpa using hl)
    rw [show (k :: keys).length = keys.length + 1 from rfl, flat_cons _ (fun j => UInt8.ofNat (keys.getD j []).length :: (keys.getD j [] ++ UInt8.ofNat (vals.getD j []).length :: vals.getD j [])) keys.length (UInt8.ofNat k.length :: (k ++ UInt8.ofNat v.length :: v)) (by simp) (fun i => by simp), ← h]
    simp [cells]
  | [], _ :: _, hl => by simp at hl
  | _ :: _, [], hl => by simp at hl
theorem cellsI_flat : ∀ {keys : List Bs} {kids : List Nat}, kids.length = keys.length → cells false keys [] kids = ((List.range keys.length).map fun j => UInt8.ofNat (keys.getD j []).length :: (keys.getD j [] ++ two (kids.getD j 0))).flatten
  | [], [], _ => rfl
  | k :: keys, c :: kids, hl => by
    have h := cellsI_flat (keys := keys) (kids := kids) (by simpa using hl)
    rw [show (k :: keys).length = keys.length + 1 from rfl, flat_cons _ (fun j => UInt8.ofNat (keys.getD j []).length :: (keys.getD j [] ++ two (kids.getD j 0))) keys.length (UInt8.ofNat k.length :: (k ++ two c)) (by simp) (fun i => by simp), ← h]
    simp [cells]
  | [], _ :: _, hl => by simp at hl
  | _ :: _, [], hl => by simp at hl
theorem body_up {n : Nd} (h : n.sound) : n.body = upN n n.keys.length := by
  obtain ⟨lf, keys, vals, kids⟩ := n
  obtain ⟨_, _, h3⟩ := h
  cases lf with
  | true =>
    simp only [if_true] at h3
    unfold Nd.body upN
    simp only [if_true]
    rw [cellsL_flat h3.1]
    rfl
  | false =>
    simp only [Bool.false_eq_true, if_false] at h3
    obtain ⟨h4, h5, _⟩ := h3
    cases kids with
    | nil => simp at h5
    | cons c kids =>
      unfold Nd.body upN
      simp only [Bool.false_eq_true, if_false, List.tail_cons]
      rw [cellsI_flat (by simpa using h5)]
      unfold hdrN
      simp only [Bool.false_eq_true, if_false, List.cons_append]
      have e : entN ⟨false, keys, vals, c :: kids⟩ = fun j => UInt8.ofNat (keys.getD j []).length :: (keys.getD j [] ++ two (kids.getD j 0)) := by
        funext j; unfold entN; simp
      rw [e]
theorem up_fits {n : Nd} (h : n.right) {i : Nat} (hi : i ≤ n.keys.length) : (upN n i).length ≤ 256 := by
  have h1 := upN_mono n i (n.keys.length - i)
  rw [show i + (n.keys.length - i) = n.keys.length by omega, ← body_up h.1, body_len h.1] at h1
  have := h.2
  omega
def rowP (x : Bs) : List Value := bytesV (pad x)
theorem rowP_len {x : Bs} (h : x.length ≤ 256) : (rowP x).length = 256 := by
  unfold rowP pad; rw [bytesV_length, List.length_append, List.length_replicate]; omega
theorem rowP_app {x y : Bs} {n : Nat} (hn : n = x.length) (h : x.length + y.length ≤ 256) : splice (rowP x) (0 + n * 1) (bytesV y) = rowP (x ++ y) := by
  subst hn
  unfold rowP pad
  have e : List.replicate (256 - x.length) (0 : UInt8) = List.replicate y.length 0 ++ List.replicate (256 - (x ++ y).length) 0 := by
    rw [List.replicate_append_replicate]; congr 1; rw [List.length_append]; omega
  rw [e, bytesV_append, bytesV_append, splice_mid (by rw [bytesV_length, bytesV_length, List.length_replicate]) (by rw [bytesV_length]; omega), bytesV_append, bytesV_append, List.append_assoc]
theorem u8w (n : Nat) : IntKind.u8.wrap ((n : Nat) : Int) = (((UInt8.ofNat n).toNat : Nat) : Int) := by
  rw [wrap_u8, UInt8.toNat_ofNat']; omega
theorem u8w2 (n : Nat) : IntKind.u8.wrap (((n : Nat) : Int) / 256) = (((UInt8.ofNat (n / 256)).toNat : Nat) : Int) := by
  have := u8w (n / 256)
  rwa [Int.natCast_ediv] at this
theorem room_row {x y : Bs} (h : x.length + y.length ≤ 256) : 0 + x.length * 1 + y.length * 1 ≤ (rowP x).length := by
  rw [rowP_len (by omega)]; omega
section
variable {r : Option Nat} {fr : Fr} {d : Option Tmp} {ty : TypeId} {pos : String} {aft : Array Edge} {g : Option (Nat × Bool)} {u : Value} {p1 p2 : Operand} {w : World} {R : List Assn} {b bt : Nat} {tt : TypeId} {x y : Bs}
theorem does_app1 (hs : Sat (blk bt (bytesV y) tt :: blk b (rowP x) 5 :: R) w) (hx : ev fr p1 = some (.slice (some ⟨b, 0, none⟩) x.length 256)) (hy : ev fr p2 = some (.slice (some ⟨bt, 0, none⟩) y.length y.length)) (h : x.length + y.length ≤ 256) :
    Sl.Does Tryz.prog r ⟨d, .call { callee := .builtin .append, args := #[p1, p2], argTypes := #[44, 44] }, ty, pos, aft, g⟩ fr w (fun v' w' => v' = .slice (some ⟨b, 0, none⟩) (x ++ y).length 256 ∧ Sat (blk b (rowP (x ++ y)) 5 :: R) w') :=
  (does_appendIn (size := 1) hs hx hy (src2_rd (m := y.length) (Rd.of_at (l := blk bt (bytesV y) tt :: blk b (rowP x) 5 :: R) (b := bt)) (by rw [bytesV_length, Nat.mul_one]) (bytesV_one _)) h (room_row h)).mono fun v' w' ⟨e, hs'⟩ => by
    rw [rowP_app rfl h] at hs'
    exact ⟨by rw [e, List.length_append], hs'.tail⟩
theorem does_app2 (hs : Sat (blk b (rowP x) 5 :: R) w) (hx : ev fr p1 = some (.slice (some ⟨b, 0, none⟩) x.length 256)) (hy : ev fr p2 = some u) (hu : RdS R 1 u y.length (bytesV y)) (h : x.length + y.length ≤ 256) :
    Sl.Does Tryz.prog r ⟨d, .call { callee := .builtin .append, args := #[p1, p2], argTypes := #[44, 44] }, ty, pos, aft, g⟩ fr w (fun v' w' => v' = .slice (some ⟨b, 0, none⟩) (x ++ y).length 256 ∧ Sat (blk b (rowP (x ++ y)) 5 :: R) w') :=
  (does_appendIn (size := 1) hs hx hy (RdS.src2 hu (bytesV_one _)) h (room_row h)).mono fun v' w' ⟨e, hs'⟩ => by
    rw [rowP_app rfl h] at hs'
    exact ⟨by rw [e, List.length_append], hs'⟩
end
theorem page_spec {F : List Assn} {y : NdV} {n : Nd} {w : World} (hs : Sat F w) (hr : NdR F y n) (hri : n.right) :
    Ret Tryz.prog 87 [y.val n] w fun v w' => Sat (sl v 5 1 256 (bytesV n.page) :: F) w' := by
  have hr0 := hr
  have hfew := keys_few hri
  obtain ⟨sk, sv, si, rk, rv⟩ := y
  obtain ⟨hk, hv, hc, ⟨f1, f2, f3⟩, hks, hvs⟩ := hr
  dsimp only [] at hk hv hc f1 f2 f3 hks hvs
  obtain ⟨pk, ck, rfl, hck, _⟩ := hk.shape
  obtain ⟨pv, cv, rfl, hcv, _⟩ := hv.shape
  obtain ⟨pi, ci, rfl, hci, _⟩ := hc.shape
  refine Ret.enter [(true, .agg [bool n.leaf, .slice pk n.keys.length ck, .slice pv n.vals.length cv, .slice pi n.kids.length ci].toArray)] _ Tryz.func87 rfl Tryz.ntmps87 rfl ?_
  refine zz ?_
  refine MC.does true (does_box hs rfl rfl) rfl ?_; rintro _ w ⟨b1, rfl, hs⟩
  refine zz ?_
  refine MC.does true (does_makeSliceI 0 256 hs rfl rfl rfl rfl (by omega) (by omega) (by omega)) rfl ?_
  rintro _ w ⟨b, rfl, hs⟩
  have e0 : rep 256 [.int .u8 0] = rowP [] := by rw [rep_zeros]; rfl
  rw [e0] at hs
  refine zz ?_
  rw [u8w]
  refine MC.does true (does_buildL hs rfl rfl rfl (all1 rfl) rfl) rfl ?_; rintro _ w ⟨bt, rfl, hs⟩
  refine MC.does true (does_app1 (x := []) (y := [2, UInt8.ofNat n.keys.length]) hs rfl rfl (by simp)) rfl ?_
  rintro _ w ⟨rfl, hs⟩
  refine zz ?_
  refine MC.cutAtS 2 (σ := Unit) (fun _ => [(1, true, ptr b1), (3, true, .slice (some ⟨b, 0, none⟩) (upN n 0).length 256)]) (fun _ w => Sat (blk b (rowP (upN n 0)) 5 :: blk b1 [bool n.leaf, .slice pk n.keys.length ck, .slice pv n.vals.length cv, .slice pi n.kids.length ci] 97 :: F) w) rfl ?_ ?_
  rotate_left
  · obtain ⟨lf, keys, vals, kids⟩ := n
    dsimp only [] at f1 f2 f3 hs hc hri ⊢
    cases lf with
    | true =>
      refine zz ?_
      refine MC.does true (does_store1 hs rfl rfl rfl (by rw [rowP_len (by simp)]; decide)) rfl ?_; intro _ w hs
      refine zz ?_
      refine MC.meetS () (by repeat (first | exact trivial | refine ⟨rfl, ?_⟩)) ?_
      exact hs
    | false =>
      have h3 := hri.1.2.2
      simp only [Bool.false_eq_true, if_false] at h3
      cases kids with
      | nil => simp at h3
      | cons k0 kids =>
        obtain ⟨kb, ko, hq, hrd⟩ := hc.at_ (by simp)
        cases hq
        refine zz ?_
        refine MC.draw hs [0, 1, 2, 3, 4, 5, 6, 7, 8, 9, 10, 11, 12, 13, 14] (by rfl) ?_; intro w hs
        refine zd ?_
        refine MC.laD true (la_load1_rd hrd hs (j := Int.toNat 0 * 1) rfl (by rfl)) rfl ?_
        refine zd ?_
        refine MC.laD true (la_load1_rd hrd hs (j := Int.toNat 0 * 1) rfl (by rfl)) rfl ?_
        refine zd ?_
        rw [u8w, u8w2]
        refine MC.doesK true (does_buildL hs rfl rfl rfl (all1 rfl) rfl) rfl rfl rfl ?_; rintro _ w ⟨bt2, rfl, hs⟩; refine zh ?_
        refine MC.doesK true (does_app1 (x := [2, UInt8.ofNat keys.length]) (y := [UInt8.ofNat (k0 / 256), UInt8.ofNat k0]) hs rfl rfl (by simp)) rfl rfl rfl ?_
        rintro _ w ⟨rfl, hs⟩
        refine zh ?_
        refine zd ?_
        refine zz ?_
        exact MC.meetS () (by repeat (first | exact trivial | refine ⟨rfl, ?_⟩)) hs
  · rintro _ w hs
    (try dsimp only [List.drop_succ_cons, List.drop_zero, List.take_succ_cons, List.take_zero, List.cons_append, List.nil_append])
    refine zz ?_
    refine MC.loop (σ := Nat) (fun i => [(1, true, ptr b1), (3, true, .slice (some ⟨b, 0, none⟩) (upN n i).length 256), (33, true, .slice pk n.keys.length ck), (34, true, int ((n.keys.length : Nat) : Int)), (35, true, int ((i : Nat) : Int))])
      (fun i w => i ≤ n.keys.length ∧ Sat (blk b (rowP (upN n i)) 5 :: blk b1 [bool n.leaf, .slice pk n.keys.length ck, .slice pv n.vals.length cv, .slice pi n.kids.length ci] 97 :: F) w) (fun i => n.keys.length - i) 0 (by repeat (first | exact trivial | refine ⟨rfl, ?_⟩)) ⟨Nat.zero_le _, hs⟩ ?_
    clear hs
    rintro i w ⟨hi, hs⟩
    dsimp only [] at hi hs ⊢
    rcases Nat.lt_or_ge i n.keys.length with hlt | hge
    · obtain ⟨kb, ko, cc, q, c2, hv1, hg, hrd, hk1⟩ := hk.get hlt
      cases hv1
      have hj : rk[((i : Nat) : Int).toNat * 1]? = some (.slice q n.keys[i].length c2) := by rw [Int.toNat_natCast, Nat.mul_one]; exact hg
      have hkl := hri.1.1 _ (List.getElem_mem hlt)
      have hfit := up_fits hri (i := i + 1) hlt
      rw [upN_succ, List.length_append] at hfit
      have hkd := getD_at hlt
      have hel : 1 + n.keys[i].length ≤ (entN n i).length := by
        unfold entN; rw [hkd]; split <;> simp <;> omega
      have hup := upN_succ n i
      generalize upN n i = x at *
      refine zz ?_
      refine MC.la true (la_load1_rd hrd hs (j := ((i : Nat) : Int).toNat * 1) rfl hj) rfl ?_
      refine zz ?_
      rw [u8w]
      refine MC.does true (does_buildL hs rfl rfl rfl (all1 rfl) rfl) rfl ?_; rintro _ w ⟨bt, rfl, hs⟩
      refine MC.does true (does_app1 (x := x) (y := [UInt8.ofNat n.keys[i].length]) hs rfl rfl (by simp only [List.length_cons, List.length_nil]; omega)) rfl ?_
      rintro _ w ⟨rfl, hs⟩
      refine zz ?_
      refine MC.does true (does_app2 (y := n.keys[i]) hs rfl rfl hk1.up (by simp only [List.length_append, List.length_cons, List.length_nil]; omega)) rfl ?_
      rintro _ w ⟨rfl, hs⟩
      refine zz ?_
      have h3 := hri.1.2.2
      refine MC.condB rfl (fun hb => ?_) (fun hb => ?_)
      · rw [if_pos hb] at h3
        have hiv : i < n.vals.length := by omega
        obtain ⟨vb, vo, vc, q2, c3, hv1, hvg, hvr, hv2⟩ := hv.get hiv
        cases hv1
        have hj2 : rv[((i : Nat) : Int).toNat * 1]? = some (.slice q2 n.vals[i].length c3) := by rw [Int.toNat_natCast, Nat.mul_one]; exact hvg
        have hent : entN n i = UInt8.ofNat n.keys[i].length :: (n.keys[i] ++ UInt8.ofNat n.vals[i].length :: n.vals[i]) := by
          unfold entN; rw [if_pos hb, hkd, getD_at hiv]
        rw [hent] at hfit hup
        simp only [List.length_cons, List.length_append] at hfit
        refine MC.draw hs [0, 1, 2, 3, 4, 5, 6, 7, 10, 11, 12, 13, 14, 8, 9, 15, 16] (by rfl) ?_; intro w hs
        refine zd ?_
        refine MC.laD true (la_load1_rd hvr hs (j := ((i : Nat) : Int).toNat * 1) rfl hj2) rfl ?_
        refine zd ?_
        refine MC.laD true (la_load1_rd hvr hs (j := ((i : Nat) : Int).toNat * 1) rfl hj2) rfl ?_
        refine zd ?_
        rw [u8w]
        refine MC.doesK true (does_buildL hs rfl rfl rfl (all1 rfl) rfl) rfl rfl rfl ?_; rintro _ w ⟨bt3, rfl, hs⟩; refine zh ?_
        refine MC.doesK true (does_app1 (y := [UInt8.ofNat n.vals[i].length]) hs rfl rfl (by simp only [List.length_append, List.length_cons, List.length_nil]; omega)) rfl rfl rfl ?_
        rintro _ w ⟨rfl, hs⟩
        refine zh ?_
        refine zd ?_
        refine MC.doesK true (does_app2 (y := n.vals[i]) hs rfl rfl hv2.up (by simp only [List.length_append, List.length_cons, List.length_nil]; omega)) rfl rfl rfl ?_
        rintro _ w ⟨rfl, hs⟩
        refine zh ?_
        refine zd ?_
        refine zz ?_
        have ex : x ++ [UInt8.ofNat n.keys[i].length] ++ n.keys[i] ++ [UInt8.ofNat n.vals[i].length] ++ n.vals[i] = upN n (i + 1) := by rw [hup]; simp
        rw [ex] at hs ⊢
        exact MC.again (i + 1) (by repeat (first | exact trivial | refine ⟨rfl, ?_⟩)) ⟨hlt, hs⟩ (by omega)
      · rw [if_neg (by rw [hb]; decide)] at h3
        have hic : i + 1 < n.kids.length := by omega
        obtain ⟨cb, co, hq, hcr⟩ := hc.at_ (by omega)
        cases hq
        have hj2 : (bufV n.kids)[(((i : Nat) : Int) + 1).toNat * 1]? = some (int ((n.kids[i + 1] : Nat) : Int)) := by
          rw [show (((i : Nat) : Int) + 1).toNat * 1 = i + 1 by omega]; simp [bufV, hic]
        have hkid : n.kids[i + 1] < 8192 := h3.2.2 _ (List.getElem_mem hic)
        have hkid0 : n.kids.getD (i + 1) 0 = n.kids[i + 1] := by rw [List.getD_eq_getElem?_getD, List.getElem?_eq_getElem hic]; rfl
        have hent : entN n i = UInt8.ofNat n.keys[i].length :: (n.keys[i] ++ two n.kids[i + 1]) := by
          unfold entN; rw [if_neg (by rw [hb]; decide), hkd, hkid0]
        rw [hent] at hfit hup
        simp only [List.length_cons, List.length_append, two, List.length_nil] at hfit
        generalize n.kids[i + 1] = k1 at *
        refine MC.draw hs [0, 1, 2, 3, 4, 5, 6, 7, 8, 9, 10, 11, 12, 13, 14, 15, 16, 17, 18] (by rfl) ?_; intro w hs
        refine zd ?_
        refine MC.laD true (la_load1_rd hcr hs (j := (((i : Nat) : Int) + 1).toNat * 1) rfl hj2) rfl ?_
        refine zd ?_
        refine MC.laD true (la_load1_rd hcr hs (j := (((i : Nat) : Int) + 1).toNat * 1) rfl hj2) rfl ?_
        refine zd ?_
        rw [u8w, u8w2]
        refine MC.doesK true (does_buildL hs rfl rfl rfl (all1 rfl) rfl) rfl rfl rfl ?_; rintro _ w ⟨bt3, rfl, hs⟩; refine zh ?_
        refine MC.doesK true (does_app1 (y := two k1) hs rfl rfl (by simp only [List.length_append, List.length_cons, List.length_nil, two]; omega)) rfl rfl rfl ?_
        rintro _ w ⟨rfl, hs⟩
        refine zh ?_
        refine zd ?_
        refine zz ?_
        have ex : x ++ [UInt8.ofNat n.keys[i].length] ++ n.keys[i] ++ two k1 = upN n (i + 1) := by rw [hup]; simp
        rw [ex] at hs ⊢
        exact MC.again (i + 1) (by repeat (first | exact trivial | refine ⟨rfl, ?_⟩)) ⟨hlt, hs⟩ (by omega)
    · obtain rfl : i = n.keys.length := by omega
      refine zz ?_
      refine MC.pure (f := true) (po_slice_hi (b := 256) rfl rfl (Nat.le_refl _)) rfl ?_
      refine zz ?_
      refine MC.ret rfl ?_
      rw [← body_up hri.1] at hs
      have hs := (hs.swap.tail)
      have e : rowP n.body = bytesV n.page ++ [] := by rw [List.append_nil]; rfl
      rw [e] at hs
      exact Sat.sl_mk (n := 256) (c := 256) (size := 1) hs (Nat.le_refl _) (by rw [bytesV_length, page_len hri]) (by rw [bytesV_length, page_len hri]; rfl)
theorem nbytes_spec {F : List Assn} {y : NdV} {n : Nd} {w : World} (hs : Sat F w) (hr : NdR F y n) (hkd : ∀ k ∈ n.kids, k ≤ 100000) :
    Ret Tryz.prog 63 [y.val n] w fun v w' => (n.right ∧ ∃ vb, v = .tuple #[vb, int 0] ∧ Sat (sl vb 5 1 256 (bytesV n.page) :: F) w') ∨ (¬ n.right ∧ v = .tuple #[.slice none 0 0, int 200] ∧ Sat F w') := by
  have hr0 := hr
  obtain ⟨sk, sv, si, rk, rv⟩ := y
  obtain ⟨hk, hv, hc, ⟨f1, f2, f3⟩, hks, hvs⟩ := hr
  dsimp only [] at hk hv hc f1 f2 f3 hks hvs
  obtain ⟨pk, ck, rfl, hck, _⟩ := hk.shape
  obtain ⟨pv, cv, rfl, hcv, _⟩ := hv.shape
  obtain ⟨pi, ci, rfl, hci, _⟩ := hc.shape
  refine Ret.enter [(true, .agg [bool n.leaf, .slice pk n.keys.length ck, .slice pv n.vals.length cv, .slice pi n.kids.length ci].toArray)] _ Tryz.func63 rfl Tryz.ntmps63 rfl ?_
  refine zz ?_
  refine MC.does true (does_box hs rfl rfl) rfl ?_; rintro _ w ⟨b2, rfl, hs⟩
  refine zz ?_
  refine MC.la true (la_loadV (vs := [bool n.leaf, .slice pk n.keys.length ck, .slice pv n.vals.length cv, .slice pi n.kids.length ci]) hs rfl rfl rfl rfl) rfl ?_
  have hcall := right_spec hs hr0.up hkd
  refine MC.does true (does_call rfl (hcall)) rfl ?_
  rintro _ w ⟨rfl, hs⟩
  by_cases h1 : n.right
  · rw [decide_eq_true h1]
    refine zz ?_
    refine MC.la true (la_loadV (vs := [bool n.leaf, .slice pk n.keys.length ck, .slice pv n.vals.length cv, .slice pi n.kids.length ci]) hs rfl rfl rfl rfl) rfl ?_
    have hcall := page_spec hs hr0.up h1
    refine MC.does true (does_call rfl (hcall)) rfl ?_
    intro vb w hs
    refine zz ?_
    refine MC.ret rfl ?_
    exact .inl ⟨h1, vb, rfl, hs.swap.tail⟩
  · rw [decide_eq_false h1]
    refine zz ?_
    refine MC.ret rfl ?_
    exact .inr ⟨h1, rfl, hs.tail⟩
end Go.Proofs.YtjlofdodiaklaaaGreat
