/-
  Nodes: Find | Nodes: own, joined, Join | Nodes: Join
-/
import Derived.Test.YtjlofdodiaklaaaGreatYax
set_option maxHeartbeats 1000000
set_option linter.unusedVariables false
set_option linter.unusedSimpArgs false
namespace Go.Proofs.YtjlofdodiaklaaaGreat
open Go Go.Sl Go.Tr
attribute [local irreducible] LooksAt

theorem while_eq {p : Bs → Bool} : ∀ {K : List Bs} {i : Nat}, i ≤ K.length → (∀ (j : Nat) (h : j < K.length), j < i → p K[j] = true) → (∀ (h : i < K.length), p K[i] = false) → (K.takeWhile p).length = i
  | [], i, hi, _, _ => by simp at hi; subst hi; rfl
  | a :: K, 0, _, _, h => by
    have := h (by simp)
    rw [List.takeWhile_cons, if_neg (by simpa using this)]; rfl
  | a :: K, i + 1, hi, h1, h2 => by
    have h0 := h1 0 (by simp) (by omega)
    rw [List.takeWhile_cons, if_pos (by simpa using h0), List.length_cons, while_eq (by simpa using hi) (fun j hj hji => h1 (j + 1) (by simpa using hj) (by omega)) (fun h => h2 (by simpa using h))]
theorem nfind_spec {F : List Assn} {y : NdV} {n : Nd} {vk : Value} {key : Bs} {w : World} (hs : Sat F w) (hr : NdR F y n) (hkey : RdS F 1 vk key.length (bytesV key)) :
    Ret Tryz.prog 68 [y.val n, vk] w fun v w' => v = .tuple #[int (((n.find key).1 : Nat) : Int), bool (n.find key).2] ∧ Sat F w' := by
  have hr0 := hr
  obtain ⟨sk, sv, si, rk, rv⟩ := y
  obtain ⟨hk, hv, hc, ⟨f1, f2, f3⟩, hks, hvs⟩ := hr
  dsimp only [] at hk hv hc f1 f2 f3 hks hvs
  obtain ⟨pk, ck, rfl, hck, _⟩ := hk.shape
  obtain ⟨pv, cv, rfl, hcv, _⟩ := hv.shape
  obtain ⟨pi, ci, rfl, hci, _⟩ := hc.shape
  obtain ⟨qk, qc, rfl, _, _⟩ := hkey.shape
  refine Ret.enter [(true, .agg [bool n.leaf, .slice pk n.keys.length ck, .slice pv n.vals.length cv, .slice pi n.kids.length ci].toArray), (true, .slice qk key.length qc)] _ Tryz.func68 rfl Tryz.ntmps68 rfl ?_
  refine zz ?_
  refine MC.does true (does_box hs rfl rfl) rfl ?_; rintro _ w ⟨b2, rfl, hs⟩
  refine zz ?_
  refine MC.cutAtS 2 (σ := Unit) (fun _ => [(1, true, .slice qk key.length qc), (2, true, ptr b2), (6, true, int ((below n.keys key : Nat) : Int))]) (fun _ w => Sat (blk b2 [bool n.leaf, .slice pk n.keys.length ck, .slice pv n.vals.length cv, .slice pi n.kids.length ci] 97 :: F) w) rfl ?_ ?_
  rotate_left
  · refine MC.loop (σ := Nat) (fun i => [(1, true, .slice qk key.length qc), (2, true, ptr b2), (6, true, int ((i : Nat) : Int))])
      (fun i w => i ≤ n.keys.length ∧ (∀ (j : Nat) (h : j < n.keys.length), j < i → ltB n.keys[j] key = true) ∧ Sat (blk b2 [bool n.leaf, .slice pk n.keys.length ck, .slice pv n.vals.length cv, .slice pi n.kids.length ci] 97 :: F) w) (fun i => n.keys.length - i) 0 (by repeat (first | exact trivial | refine ⟨rfl, ?_⟩)) ⟨Nat.zero_le _, fun j _ h => by omega, hs⟩ ?_
    clear hs
    rintro i w ⟨hi, hlt, hs⟩
    dsimp only [] at hi hlt hs ⊢
    rcases Nat.lt_or_ge i n.keys.length with hil | hge
    · obtain ⟨b, o, cc, q, c2, hv1, hg, hrd, hk1⟩ := hk.get hil
      cases hv1
      have hj : rk[((i : Nat) : Int).toNat * 1]? = some (.slice q n.keys[i].length c2) := by rw [Int.toNat_natCast, Nat.mul_one]; exact hg
      refine zz ?_
      refine MC.la true (la_load1_rd hrd hs (j := ((i : Nat) : Int).toNat * 1) rfl hj) rfl ?_
      refine zz ?_
      have hcmp := bcompare_spec hs hk1.up hkey.up
      refine MC.does true (does_call rfl (hcmp)) rfl ?_
      rintro _ w ⟨rfl, rfl⟩
      have hcl := cmp_lt n.keys[i] key
      have hcb := cmp_bd n.keys[i] key
      by_cases h4 : Lib.compareBytes n.keys[i] key < 0
      · refine zz ?_
        exact MC.again (i + 1) (by repeat (first | exact trivial | refine ⟨rfl, ?_⟩)) ⟨hil, fun j h hj => by
          rcases Nat.lt_or_ge j i with h' | h'
          · exact hlt j h h'
          · obtain rfl : j = i := by omega
            exact hcl.1 h4, hs⟩ (by omega)
      · refine zz ?_
        have hb : below n.keys key = i := while_eq (p := fun k => ltB k key) hi hlt (fun h => Bool.eq_false_iff.2 fun h5 => h4 (hcl.2 h5))
        exact MC.meetS () ⟨rfl, rfl, int_eq (by rw [hb]), trivial⟩ hs
    · obtain rfl : i = n.keys.length := by omega
      refine zz ?_
      have hb : below n.keys key = n.keys.length := while_eq (p := fun k => ltB k key) hi hlt (fun h => absurd h (by omega))
      exact MC.meetS () ⟨rfl, rfl, int_eq (by rw [hb]), trivial⟩ hs
  · rintro _ w hs
    (try dsimp only [List.drop_succ_cons, List.drop_zero, List.take_succ_cons, List.take_zero, List.cons_append, List.nil_append])
    have hbl : below n.keys key ≤ n.keys.length := (List.takeWhile_sublist _).length_le
    have hfl : n.leaf = true → n.find key = (below n.keys key, decide (n.keys[below n.keys key]? = some key)) := fun h => by unfold Nd.find; rw [if_pos h]
    have hfi : n.leaf = false → n.find key = (below n.keys key + ((n.keys.drop (below n.keys key)).takeWhile fun k => decide (k = key)).length, false) := fun h => by unfold Nd.find; rw [if_neg (by rw [h]; decide)]
    generalize below n.keys key = i at *
    dsimp only [List.drop]
    refine zz ?_
    refine MC.cutAtS 1 (σ := Unit) (fun _ => [(1, true, .slice qk key.length qc), (2, true, ptr b2), (6, true, int ((i : Nat) : Int)), (7, true, bool (decide (n.keys[i]? = some key)))]) (fun _ w => Sat (blk b2 [bool n.leaf, .slice pk n.keys.length ck, .slice pv n.vals.length cv, .slice pi n.kids.length ci] 97 :: F) w) rfl ?_ ?_
    rotate_left
    · rcases Nat.lt_or_ge i n.keys.length with hil | hge
      · obtain ⟨b, o, cc, q, c2, hv1, hg, hrd, hk1⟩ := hk.get hil
        cases hv1
        have hj : rk[((i : Nat) : Int).toNat * 1]? = some (.slice q n.keys[i].length c2) := by rw [Int.toNat_natCast, Nat.mul_one]; exact hg
        refine zz ?_
        refine MC.la true (la_load1_rd hrd hs (j := ((i : Nat) : Int).toNat * 1) rfl hj) rfl ?_
        refine zz ?_
        have heq := equal_spec hs hk1.up hkey.up
        refine MC.does true (does_call rfl (heq)) rfl ?_
        rintro _ w ⟨rfl, rfl⟩
        refine zz ?_
        have e1 : decide (n.keys[i] = key) = decide (n.keys[i]? = some key) := by rw [List.getElem?_eq_getElem hil]; simp
        rw [e1]
        exact MC.meetS () (by repeat (first | exact trivial | refine ⟨rfl, ?_⟩)) hs
      · refine zz ?_
        have e1 : false = decide (n.keys[i]? = some key) := by rw [List.getElem?_eq_none (by omega)]; simp
        rw [← e1]
        exact MC.meetS () (by repeat (first | exact trivial | refine ⟨rfl, ?_⟩)) hs
    · rintro _ w hs
      (try dsimp only [List.drop_succ_cons, List.drop_zero, List.take_succ_cons, List.take_zero, List.cons_append, List.nil_append])
      refine zz ?_
      refine MC.condB rfl (fun hb => ?_) (fun hb => ?_)
      · refine zz ?_
        refine MC.ret rfl ?_
        rw [hfl hb]
        exact ⟨rfl, hs.tail⟩
      · rw [hfi hb]
        clear hfl hfi
        have hwl : ((n.keys.drop i).takeWhile fun k => decide (k = key)).length ≤ n.keys.length - i := by
          have := (List.takeWhile_sublist (fun k => decide (k = key)) (l := n.keys.drop i)).length_le
          rw [List.length_drop] at this; exact this
        refine zz ?_
        refine MC.loop (σ := Nat) (fun j => [(1, true, .slice qk key.length qc), (2, true, ptr b2), (6, true, int ((i + j : Nat) : Int))])
          (fun j w => i + j ≤ n.keys.length ∧ (∀ (m : Nat) (h : m < (n.keys.drop i).length), m < j → decide ((n.keys.drop i)[m] = key) = true) ∧ Sat (blk b2 [bool n.leaf, .slice pk n.keys.length ck, .slice pv n.vals.length cv, .slice pi n.kids.length ci] 97 :: F) w) (fun j => n.keys.length - (i + j)) 0 (by repeat (first | exact trivial | refine ⟨rfl, ?_⟩)) ⟨hbl, fun m _ h => by omega, hs⟩ ?_
        clear hs
        rintro j w ⟨hi, hlt, hs⟩
        dsimp only [] at hi hlt hs ⊢
        rcases Nat.lt_or_ge (i + j) n.keys.length with hil | hge
        · obtain ⟨b, o, cc, q, c2, hv1, hg, hrd, hk1⟩ := hk.get hil
          cases hv1
          have hj : rk[((i + j : Nat) : Int).toNat * 1]? = some (.slice q n.keys[i + j].length c2) := by rw [Int.toNat_natCast, Nat.mul_one]; exact hg
          refine zz ?_
          refine MC.la true (la_load1_rd hrd hs (j := ((i + j : Nat) : Int).toNat * 1) rfl hj) rfl ?_
          refine zz ?_
          have heq := equal_spec hs hk1.up hkey.up
          refine MC.does true (does_call rfl (heq)) rfl ?_
          rintro _ w ⟨rfl, rfl⟩
          by_cases h4 : n.keys[i + j] = key
          · rw [decide_eq_true h4]
            refine zz ?_
            exact MC.again (j + 1) (by repeat (first | exact trivial | refine ⟨rfl, ?_⟩)) ⟨by omega, fun m h hm => by
              rcases Nat.lt_or_ge m j with h' | h'
              · exact hlt m h h'
              · obtain rfl : m = j := by omega
                rw [List.getElem_drop]; exact decide_eq_true h4, hs⟩ (by omega)
          · rw [decide_eq_false h4]
            refine zz ?_
            refine MC.ret rfl ?_
            have hb : ((n.keys.drop i).takeWhile fun k => decide (k = key)).length = j := while_eq (p := fun k => decide (k = key)) (by rw [List.length_drop]; omega) hlt (fun h => by rw [List.getElem_drop]; exact decide_eq_false h4)
            rw [hb]
            exact ⟨rfl, hs.tail⟩
        · refine zz ?_
          refine MC.ret rfl ?_
          have hb : ((n.keys.drop i).takeWhile fun k => decide (k = key)).length = j := while_eq (p := fun k => decide (k = key)) (by rw [List.length_drop]; omega) hlt (fun h => by rw [List.length_drop] at h; omega)
          rw [hb]
          exact ⟨rfl, hs.tail⟩
end Go.Proofs.YtjlofdodiaklaaaGreat

namespace Go.Proofs.YtjlofdodiaklaaaGreat
open Go Go.Sl Go.Tr
attribute [local irreducible] LooksAt

theorem Rows.one {F : List Assn} {v : Value} {rs : List Value} {ks : List Bs} (h : Rows F v rs ks) : ∀ u ∈ rs, u.oneCell' = true := fun u hu => by
  obtain ⟨i, hi, rfl⟩ := List.mem_iff_getElem.1 hu
  obtain ⟨p, c, _, _, hl⟩ := h.shape
  obtain ⟨u, h1, h2⟩ := h.at_ i (by omega)
  rw [List.getElem?_eq_getElem hi] at h1
  cases h1
  obtain ⟨q, c, e, _, _⟩ := h2.shape
  rw [e]; rfl
def Inp (pool : List (Value × Bs)) (rs : List Value) (ks : List Bs) : Prop := rs.length = ks.length ∧ ∀ (i : Nat) (k : Bs), ks[i]? = some k → ∃ u, rs[i]? = some u ∧ (u, k) ∈ pool
theorem own_spec {F : List Assn} {v : Value} {rs : List Value} {ks : List Bs} {w : World} (hs : Sat F w) (hr : Rows F v rs ks) (hn : ks.length ≤ 1000) (hk : ∀ k ∈ ks, k.length ≤ 1000) :
    Ret Tryz.prog 110 [v] w fun u w' => ∃ rs' pool, Inp pool rs' ks ∧ Sat (bods 5 pool :: sl u 44 1 ks.length rs' :: F) w' := by
  obtain ⟨p, c, rfl, hc, hl⟩ := hr.shape
  refine Ret.enter [(true, .slice p ks.length c)] _ Tryz.func110 rfl Tryz.ntmps110 rfl ?_
  refine zz ?_
  have hs := bods_nil (t := 5) (hs.sl_nil 44 1)
  refine MC.loop (σ := Nat × Value × List Value × List (Value × Bs)) (fun x => [(3, true, x.2.1), (6, true, .slice p ks.length c), (7, true, int ((ks.length : Nat) : Int)), (8, true, int ((x.1 : Nat) : Int))])
    (fun x w => x.1 ≤ ks.length ∧ Inp x.2.2.2 x.2.2.1 (ks.take x.1) ∧ Sat (bods 5 x.2.2.2 :: sl x.2.1 44 1 x.1 x.2.2.1 :: F) w) (fun x => ks.length - x.1) (0, .slice none 0 0, [], []) (by repeat (first | exact trivial | refine ⟨rfl, ?_⟩)) ⟨Nat.zero_le _, ⟨rfl, fun i k h => (by cases h)⟩, hs⟩ ?_
  clear hs
  rintro ⟨i, vo, ro, pool⟩ w ⟨hi, hin, hs⟩
  dsimp only [] at hi hin hs ⊢
  obtain ⟨_, qo, co, rfl, hco⟩ := hs.tail.sl_len
  rcases Nat.lt_or_ge i ks.length with hlt | hge
  · obtain ⟨b, o, cc, q, c2, hv1, hg, hrd, hk1⟩ := hr.get hlt
    cases hv1
    have hj : rs[((i : Nat) : Int).toNat * 1]? = some (.slice q ks[i].length c2) := by rw [Int.toNat_natCast, Nat.mul_one]; exact hg
    have hkl := hk _ (List.getElem_mem hlt)
    refine zz ?_
    refine MC.la true (la_load1_rd hrd hs (j := ((i : Nat) : Int).toNat * 1) rfl hj) rfl ?_
    refine zz ?_
    have hcl := bclone_spec hs hk1.up (by omega)
    refine MC.does true (does_call rfl (hcl)) rfl ?_
    intro vb w hs
    obtain ⟨_, qb, cb, rfl, _⟩ := hs.sl_len
    refine zz ?_
    refine MC.does true (does_buildL hs rfl rfl rfl (all1 rfl) rfl) rfl ?_; rintro _ w ⟨bt, rfl, hs⟩
    refine MC.does true (does_append hs rfl rfl (src_at rfl (all1 rfl)) (by omega) (by omega)) rfl ?_
    intro vo2 w hs
    have hs := (bods_add rfl hs.tail)
    refine zz ?_
    refine MC.again (i + 1, vo2, ro ++ [Value.slice qb ks[i].length cb], pool ++ [(Value.slice qb ks[i].length cb, ks[i])]) (by repeat (first | exact trivial | refine ⟨rfl, ?_⟩)) ⟨hlt, ?_, hs⟩ (by show ks.length - (i + 1) < ks.length - i; omega)
    dsimp only []
    rw [List.take_succ_eq_append_getElem hlt]
    exact ⟨by rw [List.length_append, List.length_append, hin.1]; rfl, pool_snoc hin.1 hin.2⟩
  · obtain rfl : i = ks.length := by omega
    refine zz ?_
    refine MC.ret rfl ?_
    rw [List.take_length] at hin
    exact ⟨ro, pool, hin, hs⟩
theorem joinedB_spec {F : List Assn} {va vb : Value} {ra rb : List Value} {n m : Nat} {w : World} (hs : Sat F w) (ha : RdS F 1 va n ra) (hb : RdS F 1 vb m rb) (h1 : ∀ u ∈ ra, u.oneCell' = true) (h2 : ∀ u ∈ rb, u.oneCell' = true) (hn : n ≤ 1000) (hm : m ≤ 1000) :
    Ret Tryz.prog 113 [va, vb] w fun u w' => Sat (sl u 44 1 (n + m) (ra ++ rb) :: F) w' := by
  obtain ⟨p, c, rfl, hc, hl⟩ := ha.shape
  obtain ⟨p', c', rfl, hc', hl'⟩ := hb.shape
  refine Ret.enter [(true, .slice p n c), (true, .slice p' m c')] _ Tryz.func113 rfl Tryz.ntmps113 rfl ?_
  refine zz ?_
  refine MC.does true (does_makeSliceI 0 (n + m) hs rfl rfl rfl (by push_cast; rfl) (by omega) (by omega) (by omega)) rfl ?_
  rintro _ w ⟨b, rfl, hs⟩
  have hs := Sat.sl_mk (xs := []) (spare := rep (n + m) [.slice none 0 0]) (n := 0) (c := n + m) (size := 1) hs (by omega) rfl (by rw [rep_length]; simp)
  refine zz ?_
  refine MC.does true (does_append hs rfl rfl (RdS.src ha h1) (by omega) (by omega)) rfl ?_
  intro v1 w hs
  refine zz ?_
  refine MC.does true (does_append hs rfl rfl (RdS.src hb h2) (by omega) (by omega)) rfl ?_
  intro v2 w hs
  refine zz ?_
  refine MC.ret rfl ?_
  rw [Nat.zero_add, List.nil_append] at hs
  exact hs
theorem joinedI_spec {F : List Assn} {va vb : Value} {ra rb : List Value} {n m : Nat} {w : World} (hs : Sat F w) (ha : RdS F 1 va n ra) (hb : RdS F 1 vb m rb) (h1 : ∀ u ∈ ra, u.oneCell' = true) (h2 : ∀ u ∈ rb, u.oneCell' = true) (hn : n ≤ 1000) (hm : m ≤ 1000) :
    Ret Tryz.prog 114 [va, vb] w fun u w' => Sat (sl u 3 1 (n + m) (ra ++ rb) :: F) w' := by
  obtain ⟨p, c, rfl, hc, hl⟩ := ha.shape
  obtain ⟨p', c', rfl, hc', hl'⟩ := hb.shape
  refine Ret.enter [(true, .slice p n c), (true, .slice p' m c')] _ Tryz.func114 rfl Tryz.ntmps114 rfl ?_
  refine zz ?_
  refine MC.does true (does_makeSliceI 0 (n + m) hs rfl rfl rfl (by push_cast; rfl) (by omega) (by omega) (by omega)) rfl ?_
  rintro _ w ⟨b, rfl, hs⟩
  have hs := Sat.sl_mk (xs := []) (spare := rep (n + m) [int 0]) (n := 0) (c := n + m) (size := 1) hs (by omega) rfl (by rw [rep_length]; simp)
  refine zz ?_
  refine MC.does true (does_append hs rfl rfl (RdS.src ha h1) (by omega) (by omega)) rfl ?_
  intro v1 w hs
  refine zz ?_
  refine MC.does true (does_append hs rfl rfl (RdS.src hb h2) (by omega) (by omega)) rfl ?_
  intro v2 w hs
  refine zz ?_
  refine MC.ret rfl ?_
  rw [Nat.zero_add, List.nil_append] at hs
  exact hs
end Go.Proofs.YtjlofdodiaklaaaGreat

namespace Go.Proofs.YtjlofdodiaklaaaGreat
open Go Go.Sl Go.Tr
attribute [local irreducible] LooksAt

theorem rows_join {F G : List Assn} {w : World} {va vb v : Value} {ra rb : List Value} {ka kb : List Bs} (hs : Sat (sl v 44 1 (ka.length + kb.length) (ra ++ rb) :: G) w) (ha : Rows F va ra ka) (hb : Rows F vb rb kb) [hG : Suf G F] : Rows (sl v 44 1 (ka.length + kb.length) (ra ++ rb) :: G) v (ra ++ rb) (ka ++ kb) := by
  obtain ⟨_, _, _, _, hla⟩ := ha.shape
  obtain ⟨_, _, _, _, hlb⟩ := hb.shape
  refine ⟨by rw [List.length_append]; exact RdS.of_sl hs, fun i hi => ?_⟩
  rw [List.length_append] at hi
  rcases Nat.lt_or_ge i ka.length with h | h
  · obtain ⟨u, h1, h2⟩ := ha.at_ i h
    exact ⟨u, by rw [List.getElem?_append_left (by omega)]; exact h1, by rw [List.getElem_append_left h]; exact h2.up⟩
  · obtain ⟨u, h1, h2⟩ := hb.at_ (i - ka.length) (by omega)
    exact ⟨u, by rw [List.getElem?_append_right (by omega), hla]; exact h1, by rw [List.getElem_append_right h]; exact h2.up⟩
theorem Inp.mono {pool pool' : List (Value × Bs)} {rs : List Value} {ks : List Bs} (h : Inp pool rs ks) (hp : ∀ x ∈ pool, x ∈ pool') : Inp pool' rs ks := ⟨h.1, pool_up hp h.2⟩
theorem Rows.one_key {F : List Assn} {w : World} {b : Nat} {t : TypeId} {u : Value} {k : Bs} (hk : RdS F 1 u k.length (bytesV k)) (hs : Sat (blk b [u] t :: F) w) : Rows (blk b [u] t :: F) (.slice (some ⟨b, 0, none⟩) 1 1) [u] [k] :=
  ⟨⟨_, _, rfl, Nat.le_refl _, rfl, fun _ => ⟨b, 0, rfl, Rd.of_at⟩⟩, fun i hi => by
    obtain rfl : i = 0 := by simpa using hi
    exact ⟨u, rfl, hk.up⟩⟩
theorem join_spec {F : List Assn} {y1 y2 : NdV} {n1 n2 : Nd} {vk : Value} {key : Bs} {w : World} (hs : Sat F w) (hr1 : NdR F y1 n1) (hr2 : NdR F y2 n2) (hkey : RdS F 1 vk key.length (bytesV key)) (hlf : n1.leaf = n2.leaf) (hfew : Few (n1.join n2 key)) (hf1 : Few n1) (hf2 : Few n2) (hsum : n1.keys.length + n2.keys.length + n1.vals.length + n2.vals.length ≤ 1000 ∧ n1.kids.length + n2.kids.length ≤ 600) (hkl : key.length ≤ 255) :
    Ret Tryz.prog 97 [y1.val n1, y2.val n2, vk] w fun v w' => ∃ y pool, NdIn pool y (n1.join n2 key) ∧ v = y.val (n1.join n2 key) ∧ Sat (ndP pool y (n1.join n2 key) F) w' := by
  obtain ⟨sk1, sv1, si1, rk1, rv1⟩ := y1
  obtain ⟨sk2, sv2, si2, rk2, rv2⟩ := y2
  obtain ⟨hk1, hv1, hc1, ⟨f1, f2, f3⟩, hks1, hvs1⟩ := hr1
  obtain ⟨hk2, hv2, hc2, ⟨g1, g2, g3⟩, hks2, hvs2⟩ := hr2
  dsimp only [] at hk1 hv1 hc1 hk2 hv2 hc2
  obtain ⟨pk1, ck1, rfl, _, hrl1⟩ := hk1.shape
  obtain ⟨pv1, cv1, rfl, _, _⟩ := hv1.shape
  obtain ⟨pi1, ci1, rfl, _, _⟩ := hc1.shape
  obtain ⟨pk2, ck2, rfl, _, hrl2⟩ := hk2.shape
  obtain ⟨pv2, cv2, rfl, _, _⟩ := hv2.shape
  obtain ⟨pi2, ci2, rfl, _, _⟩ := hc2.shape
  obtain ⟨qk, qc, rfl, _, _⟩ := hkey.shape
  obtain ⟨lf, keys1, vals1, kids1⟩ := n1
  obtain ⟨lf2, keys2, vals2, kids2⟩ := n2
  dsimp only [] at *
  subst hlf
  refine Ret.enter [(true, .agg [bool lf, .slice pk1 keys1.length ck1, .slice pv1 vals1.length cv1, .slice pi1 kids1.length ci1].toArray), (true, .agg [bool lf, .slice pk2 keys2.length ck2, .slice pv2 vals2.length cv2, .slice pi2 kids2.length ci2].toArray), (true, .slice qk key.length qc)] _ Tryz.func97 rfl Tryz.ntmps97 rfl ?_
  refine zz ?_
  refine MC.does true (does_box hs rfl rfl) rfl ?_; rintro _ w ⟨b3, rfl, hs⟩
  refine zz ?_
  refine MC.does true (does_box hs rfl rfl) rfl ?_; rintro _ w ⟨b4, rfl, hs⟩
  refine zz ?_
  refine MC.does true (does_alloc hs) rfl ?_; rintro _ w ⟨b6, rfl, hs⟩
  cases lf with
  | true =>
    refine zz ?_
    refine MC.draw hs [0, 1, 2, 3, 6, 7, 8, 9, 4, 5, 10, 11, 12, 13] (by rfl) ?_; intro w hs
    refine zd ?_
    have hj := joinedB_spec hs hk1.sl.up hk2.sl.up hk1.one hk2.one f1 g1
    refine MC.doesK true (does_call rfl (hj)) rfl rfl rfl ?_
    intro vj w hs
    refine zh ?_
    have hR := rows_join hs hk1 hk2
    have ho := own_spec hs hR (by rw [List.length_append]; omega) (fun k hk => by
      rcases List.mem_append.1 hk with h | h
      · exact hks1 k h
      · exact hks2 k h)
    refine MC.doesK true (does_call rfl (ho)) rfl rfl rfl ?_
    rintro vo w ⟨ro, po, hino, hs⟩
    refine zh ?_
    have hs := hs.pickF 3 [0, 1] rfl rfl
    refine zd ?_
    have hj := joinedB_spec hs hv1.sl.up hv2.sl.up hv1.one hv2.one f2 g2
    refine MC.doesK true (does_call rfl (hj)) rfl rfl rfl ?_
    intro vj2 w hs
    refine zh ?_
    have hR := rows_join hs hv1 hv2
    have ho := own_spec hs hR (by rw [List.length_append]; omega) (fun k hk => by
      rcases List.mem_append.1 hk with h | h
      · exact hvs1 k h
      · exact hvs2 k h)
    refine MC.doesK true (does_call rfl (ho)) rfl rfl rfl ?_
    rintro vo2 w ⟨ro2, po2, hino2, hs⟩
    refine zh ?_
    have hs := hs.pickF 5 [0, 3, 4, 1] rfl rfl
    have hs := bods_app hs.swap
    obtain ⟨_, qo, co, rfl, _⟩ := hs.tail.sl_len
    obtain ⟨_, qo2, co2, rfl, _⟩ := hs.tail.tail.sl_len
    refine MC.pure (f := true) (po_build (ls := [(0, [bool true]), (1, [.slice qo (keys1 ++ keys2).length co]), (2, [.slice qo2 (vals1 ++ vals2).length co2])]) (out := [bool true, .slice qo (keys1 ++ keys2).length co, .slice qo2 (vals1 ++ vals2).length co2, .slice none 0 0]) rfl rfl ⟨⟨_, rfl, by simp⟩, ⟨_, rfl, by simp⟩, ⟨_, rfl, by simp⟩, trivial⟩ rfl) rfl ?_
    refine MC.doesK true (does_store (vs := [bool true, .slice qo (keys1 ++ keys2).length co, .slice qo2 (vals1 ++ vals2).length co2, .slice none 0 0]) hs rfl rfl rfl rfl (all1 rfl) (by simp)) rfl rfl rfl ?_
    intro _ w hs
    rw [splice_all (by rfl)] at hs
    refine zh ?_
    refine zd ?_
    refine zz ?_
    refine MC.retR (vs := [.agg [bool true, .slice qo (keys1 ++ keys2).length co, .slice qo2 (vals1 ++ vals2).length co2, .slice none 0 0].toArray]) ⟨⟨⟨b6, 0, none⟩, rfl, load_cellA hs rfl⟩, trivial⟩ ?_
    have e : (⟨true, keys1, vals1, kids1⟩ : Nd).join ⟨true, keys2, vals2, kids2⟩ key = ⟨true, keys1 ++ keys2, vals1 ++ vals2, []⟩ := rfl
    rw [e]
    have h1 := hino.mono (pool' := po ++ po2) fun x hx => List.mem_append_left _ hx
    have h2 := hino2.mono (pool' := po ++ po2) fun x hx => List.mem_append_right _ hx
    refine ⟨⟨.slice qo (keys1 ++ keys2).length co, .slice qo2 (vals1 ++ vals2).length co2, .slice none 0 0, ro, ro2⟩, po ++ po2, ⟨h1.1, h1.2, h2.1, h2.2⟩, rfl, ?_⟩
    have hs := hs.pickF 6 [0, 1, 2] rfl rfl
    exact (hs.sl_nil 3 1).pickF 4 [1, 2, 3, 0] rfl rfl
  | false =>
    refine zz ?_
    refine MC.draw hs [0, 1, 2, 5, 6, 9, 10, 11, 12, 3, 4, 7, 8, 13, 14, 15] (by rfl) ?_; intro w hs
    refine zd ?_
    refine MC.doesK true (does_buildL hs rfl rfl rfl (all1 rfl) rfl) rfl rfl rfl ?_; rintro _ w ⟨bk, rfl, hs⟩; refine zh ?_
    have hR1 := Rows.one_key (hkey.up) hs
    have hj := joinedB_spec hs hk1.sl.up hR1.sl hk1.one hR1.one f1 (by simp)
    refine MC.doesK true (does_call rfl (hj)) rfl rfl rfl ?_
    intro vj w hs
    refine zh ?_
    have hR := rows_join (kb := [key]) hs hk1.up hR1
    obtain ⟨_, qj, cj, rfl, _⟩ := hs.sl_len
    refine zd ?_
    have hj2 := joinedB_spec hs hR.sl hk2.sl.up hR.one hk2.one (by have := hf1.keys; dsimp only [] at this; rw [List.length_append]; simp; omega) g1
    rw [List.length_append] at hj2
    refine MC.doesK true (does_call rfl (hj2)) rfl rfl rfl ?_
    intro vj2 w hs
    refine zh ?_
    rw [← List.length_append] at hs hR
    have hR2 := rows_join (ka := keys1 ++ [key]) hs hR hk2.up
    have ho := own_spec hs hR2 (by have h0 : (keys1 ++ [key] ++ keys2).length ≤ 600 := hfew.keys; omega) (fun k hk => by
      rcases List.mem_append.1 hk with h | h
      · rcases List.mem_append.1 h with h | h
        · exact hks1 k h
        · rw [List.mem_singleton.1 h]; omega
      · exact hks2 k h)
    refine MC.doesK true (does_call rfl (ho)) rfl rfl rfl ?_
    rintro vo w ⟨ro, po, hino, hs⟩
    refine zh ?_
    have hs := hs.pickF 5 [0, 1] rfl rfl
    have hjI := joinedI_spec hs hc1.up hc2.up (bufV_one _) (bufV_one _) f3 g3
    refine zd ?_
    refine MC.doesK true (does_call rfl (hjI)) rfl rfl rfl ?_
    intro vi w hs
    refine zh ?_
    have ei : bufV kids1 ++ bufV kids2 = bufV (kids1 ++ kids2) := by simp [bufV]
    rw [ei, ← List.length_append] at hs
    obtain ⟨_, qi, ci, rfl, _⟩ := hs.sl_len
    obtain ⟨_, qo, co, rfl, _⟩ := hs.tail.tail.sl_len
    refine MC.pure (f := true) (po_build (ls := [(1, [.slice qo (keys1 ++ [key] ++ keys2).length co]), (3, [.slice qi (kids1 ++ kids2).length ci])]) (out := [bool false, .slice qo (keys1 ++ [key] ++ keys2).length co, .slice none 0 0, .slice qi (kids1 ++ kids2).length ci]) rfl rfl ⟨⟨_, rfl, by simp⟩, ⟨_, rfl, by simp⟩, trivial⟩ rfl) rfl ?_
    refine MC.doesK true (does_store (vs := [bool false, .slice qo (keys1 ++ [key] ++ keys2).length co, .slice none 0 0, .slice qi (kids1 ++ kids2).length ci]) hs rfl rfl rfl rfl (all1 rfl) (by simp)) rfl rfl rfl ?_
    intro _ w hs
    rw [splice_all (by rfl)] at hs
    refine zh ?_
    refine zd ?_
    refine zz ?_
    refine MC.retR (vs := [.agg [bool false, .slice qo (keys1 ++ [key] ++ keys2).length co, .slice none 0 0, .slice qi (kids1 ++ kids2).length ci].toArray]) ⟨⟨⟨b6, 0, none⟩, rfl, load_cellA hs rfl⟩, trivial⟩ ?_
    have e : (⟨false, keys1, vals1, kids1⟩ : Nd).join ⟨false, keys2, vals2, kids2⟩ key = ⟨false, keys1 ++ [key] ++ keys2, [], kids1 ++ kids2⟩ := rfl
    rw [e]
    refine ⟨⟨.slice qo (keys1 ++ [key] ++ keys2).length co, .slice none 0 0, .slice qi (kids1 ++ kids2).length ci, ro, []⟩, po, ⟨hino.1, hino.2, rfl, fun i k h => (by cases h)⟩, rfl, ?_⟩
    have hs := hs.pickF 6 [1, 2, 0] rfl rfl
    exact (hs.sl_nil 44 1).pickF 4 [1, 2, 0, 3] rfl rfl
end Go.Proofs.YtjlofdodiaklaaaGreat
