/-
  What may be: value | The cache: Get | What may be: value | The cache: Forget, Held, New
-/
import Derived.Test.YtkccjgllanpebaaGreatDoorYaq
set_option maxHeartbeats 1000000
set_option linter.unusedVariables false
set_option linter.unusedSimpArgs false
namespace Go.Proofs.YtkccjgllanpebaaGreatDoor
open Go Go.Sl Go.Tr Go.Kv
attribute [local irreducible] LooksAt
theorem less_eq : ∀ l m : List UInt8, Op.bytesLess l m = ltB l m
  | [], [] => rfl
  | _ :: _, [] => rfl
  | [], _ :: _ => rfl
  | a :: x, b :: y => by
    unfold Op.bytesLess ltB
    rw [less_eq x y]
    by_cases h1 : a.toNat < b.toNat
    · have : a < b := h1
      rw [if_pos h1, decide_eq_true this]; rfl
    · have h1' : ¬ a < b := h1
      rw [if_neg h1, decide_eq_false h1', Bool.false_or]
      by_cases h2 : b.toNat < a.toNat
      · have : a ≠ b := fun h => by subst h; omega
        rw [if_pos h2]
        simp [this]
      · have : a = b := UInt8.toNat_inj.1 (by omega)
        rw [if_neg h2]
        simp [this]
theorem br_sgeq {P : Program} {t : TypeId} {l m : List UInt8} : Bin P .geq t (str l) (str m) (.bool (!ltB l m)) := fun _ _ w => by
  simp [eqGuard, binOp, Op.stringOp, bytes_toList, less_eq]
def risB (l : List Bs) : Bool := (List.range l.length).all fun i => Lib.validD (l.getD i []) && (decide (i = 0) || ltB (l.getD (i - 1) []) (l.getD i []))
theorem all_snoc {n : Nat} {p : Nat → Bool} : (List.range (n + 1)).all p = ((List.range n).all p && p n) := by
  rw [List.range_succ, List.all_append]; simp
theorem all_stop {n m : Nat} {p : Nat → Bool} (h : n < m) (hp : p n = false) : (List.range m).all p = false := by
  rw [List.all_eq_false]
  exact ⟨n, List.mem_range.2 h, by rw [hp]; decide⟩
theorem rising_spec {F : List Assn} {w : World} {ks : List Bs} {vk : Value} (hs : Sat F w) (hT : Tabs F) (hk : RdS F 1 vk ks.length (strsV ks)) (hn : ks.length ≤ 100000) (hb : ∀ k ∈ ks, k.length ≤ 100000) :
    Ret Tryz.prog 94 [vk] w fun v w' => v = bool (risB ks) ∧ Sat F w' := by
  obtain ⟨q, c, rfl, hc, _⟩ := hk.shape
  unfold risB
  obtain ⟨p, hp⟩ : ∃ p : Nat → Bool, ∀ i, p i = (Lib.validD (ks.getD i []) && (decide (i = 0) || ltB (ks.getD (i - 1) []) (ks.getD i []))) := ⟨_, fun _ => rfl⟩
  rw [show (fun i => Lib.validD (ks.getD i []) && (decide (i = 0) || ltB (ks.getD (i - 1) []) (ks.getD i []))) = p from funext fun i => (hp i).symm]
  refine Ret.enter [(true, .slice q ks.length c)] _ Tryz.func94 rfl Tryz.ntmps94 rfl ?_
  refine zz ?_
  refine MC.loop (σ := Nat) (fun i => [(0, true, .slice q ks.length c), (5, true, .slice q ks.length c), (6, true, int ((ks.length : Nat) : Int)), (7, true, int ((i : Nat) : Int))])
    (fun i w => i ≤ ks.length ∧ (List.range i).all p = true ∧ Sat F w) (fun i => ks.length - i) 0 zi ⟨Nat.zero_le _, rfl, hs⟩ ?_
  clear hs
  rintro i w ⟨hi, ha, hs⟩
  dsimp only [] at hi ha hs ⊢
  rcases Nat.lt_or_ge i ks.length with hlt | hge
  · obtain ⟨bk, ok, rfl, hrk⟩ := hk.at_ (by omega)
    have hg : ks.getD i [] = ks[i] := by rw [List.getD_eq_getElem?_getD, List.getElem?_eq_getElem hlt]; rfl
    have hpi := hp i
    rw [hg] at hpi
    refine zz ?_
    refine MC.la true (la_load1_rd hrk hs (j := ((i : Nat) : Int).toNat * 1) rfl (strsV_at hlt)) rfl ?_
    refine zz ?_
    refine zc rfl (tright_spec ks[i] hs hT (Nat.le_trans (hb _ (List.getElem_mem hlt)) (by decide))) ?_
    rintro _ w ⟨rfl, hs⟩
    cases hv : Lib.validD ks[i] with
    | false =>
      rw [hv, Bool.false_and] at hpi
      refine zz ?_
      refine MC.ret rfl ?_
      exact ⟨by rw [all_stop hlt hpi]; rfl, hs⟩
    | true =>
      rw [hv, Bool.true_and] at hpi
      rcases Nat.eq_zero_or_pos i with h0 | h0
      · subst h0
        refine zz ?_
        exact MC.again 1 zi ⟨hlt, by rw [all_snoc, ha, hpi]; rfl, hs⟩ (by omega)
      · have hlt1 : i - 1 < ks.length := by omega
        have hg1 : ks.getD (i - 1) [] = ks[i - 1] := by rw [List.getD_eq_getElem?_getD, List.getElem?_eq_getElem hlt1]; rfl
        rw [hg1, decide_eq_false (by omega), Bool.false_or] at hpi
        have hat := strsV_at (l := ks) hlt1
        rw [show ((i - 1 : Nat) : Int) = ((i : Nat) : Int) - 1 by omega] at hat
        refine zz ?_
        refine MC.la true (la_load1_rd hrk hs (j := (((i : Nat) : Int) - 1).toNat * 1) rfl hat) rfl ?_
        refine zz ?_
        cases hlb : ltB ks[i - 1] ks[i] with
        | true =>
          refine MC.pure (f := true) (v := .bool false) (po_bin rfl rfl (by have := br_sgeq (P := Tryz.prog) (t := 9) (l := ks[i - 1]) (m := ks[i]); rw [hlb] at this; exact this)) rfl ?_
          refine zz ?_
          exact MC.again (i + 1) zi ⟨hlt, by rw [all_snoc, ha, hpi, hlb]; rfl, hs⟩ (by omega)
        | false =>
          refine MC.pure (f := true) (v := .bool true) (po_bin rfl rfl (by have := br_sgeq (P := Tryz.prog) (t := 9) (l := ks[i - 1]) (m := ks[i]); rw [hlb] at this; exact this)) rfl ?_
          refine zz ?_
          refine MC.ret rfl ?_
          exact ⟨by rw [all_stop hlt (by rw [hpi, hlb])]; rfl, hs⟩
  · obtain rfl : i = ks.length := by omega
    refine zz ?_
    refine MC.ret rfl ?_
    exact ⟨by rw [ha]; rfl, hs⟩
def bareB (k m e : Int) (t : Bs) (l : List V) (ks : List Bs) : Bool := decide (0 ≤ k ∧ k ≤ 6) && (decide (k = 3 ∨ (m = 0 ∧ e = 0)) && (decide (k = 4 ∨ t = []) && (decide (5 ≤ k ∨ l.length = 0) && decide (k = 6 ∨ ks.length = 0))))
theorem bare_spec {F : List Assn} {w : World} {k m e : Int} {t : Bs} {l : List V} {ks : List Bs} {r : List Value} (hs : Sat F w) (hv : VR F ⟨k, m, e, t, l, ks⟩ r) :
    Ret Tryz.prog 91 [.agg r.toArray] w fun v w' => v = bool (bareB k m e t l ks) ∧ Sat F w' := by
  obtain ⟨ql, qk, cl, ck, rows, rfl, hcl, hck, hl, hvl, hk, ⟨hbt, hbl, hbk, hbs, -, -, -⟩⟩ := hv.open_
  unfold hugeN at *
  obtain ⟨B, hB⟩ : ∃ B, bareB k m e t l ks = B := ⟨_, rfl⟩
  rw [hB]
  have hBt : 0 ≤ k → k ≤ 6 → (k = 3 ∨ (m = 0 ∧ e = 0)) → (k = 4 ∨ t = []) → (5 ≤ k ∨ l.length = 0) → (k = 6 ∨ ks.length = 0) → B = true := fun a b c d f g => by
    rw [← hB]; unfold bareB
    rw [decide_eq_true (And.intro a b), decide_eq_true c, decide_eq_true d, decide_eq_true f, decide_eq_true g]; rfl
  have hBf : ¬ ((0 ≤ k ∧ k ≤ 6) ∧ (k = 3 ∨ (m = 0 ∧ e = 0)) ∧ (k = 4 ∨ t = []) ∧ (5 ≤ k ∨ l.length = 0) ∧ (k = 6 ∨ ks.length = 0)) → B = false := fun h => by
    rw [← hB, Bool.eq_false_iff]
    intro hh
    unfold bareB at hh
    simp only [Bool.and_eq_true, decide_eq_true_eq] at hh
    exact h hh
  clear hB
  refine Ret.enter [(true, .agg #[int k, int m, int e, str t, .slice ql l.length cl, .slice qk ks.length ck])] _ Tryz.func91 rfl Tryz.ntmps91 rfl ?_
  refine zz ?_
  refine MC.does true (does_box hs rfl rfl) rfl ?_; rintro _ w ⟨b1, rfl, hs⟩
  by_cases h0 : 0 ≤ k ∧ k ≤ 6
  rotate_left
  · obtain rfl := hBf fun h => h0 h.1
    rcases Int.lt_or_le k 0 with h | h
    · refine zz ?_
      refine MC.ret rfl ?_
      exact ⟨rfl, hs.tail⟩
    · refine zz ?_
      refine MC.ret rfl ?_
      exact ⟨rfl, hs.tail⟩
  obtain ⟨k0, k6⟩ := h0
  by_cases h3 : k = 3
  · have hc3 : k = 3 ∨ (m = 0 ∧ e = 0) := .inl h3
    have h4 : ¬ k = 4 := by omega
    refine zz ?_
    by_cases ht : t = []
    · have hc4 : k = 4 ∨ t = [] := .inr ht
      refine MC.cond rfl (fun h => absurd ht h) (fun _ => ?_)
      refine zz ?_
      rcases Nat.eq_zero_or_pos l.length with hll | hll
      · refine zz ?_
        rcases Nat.eq_zero_or_pos ks.length with hkl | hkl
        · obtain rfl := hBt k0 k6 hc3 hc4 (.inr hll) (.inr hkl)
          refine zz ?_
          refine MC.ret rfl ?_
          exact ⟨rfl, hs.tail⟩
        · obtain rfl := hBf fun h => by have := h.2.2.2.2; omega
          refine zz ?_
          refine MC.ret rfl ?_
          exact ⟨rfl, hs.tail⟩
      · obtain rfl := hBf fun h => by have := h.2.2.2.1; omega
        refine zz ?_
        refine MC.ret rfl ?_
        exact ⟨rfl, hs.tail⟩
    · obtain rfl := hBf fun h => by rcases h.2.2.1 with h | h; exact h4 h; exact ht h
      refine MC.cond rfl (fun _ => ?_) (fun h => absurd ht h)
      refine zz ?_
      refine MC.ret rfl ?_
      exact ⟨rfl, hs.tail⟩
  · refine zz ?_
    refine MC.la true (la_loadV hs rfl (vs := [int m, int e]) rfl rfl rfl) rfl ?_
    refine zz ?_
    refine MC.pure (f := true) (po_build (ls := []) (out := [int 0, int 0]) rfl rfl trivial rfl) rfl ?_
    refine zz ?_
    refine MC.pure (f := false) (po_bin rfl rfl br_num_ne) rfl ?_
    refine zz ?_
    by_cases hz : m = 0 ∧ e = 0
    · have hc3 : k = 3 ∨ (m = 0 ∧ e = 0) := .inr hz
      refine MC.cond rfl (fun h => absurd hz h) (fun _ => ?_)
      by_cases h4 : k = 4
      · have hc4 : k = 4 ∨ t = [] := .inl h4
        refine zz ?_
        rcases Nat.eq_zero_or_pos l.length with hll | hll
        · refine zz ?_
          rcases Nat.eq_zero_or_pos ks.length with hkl | hkl
          · obtain rfl := hBt k0 k6 hc3 hc4 (.inr hll) (.inr hkl)
            refine zz ?_
            refine MC.ret rfl ?_
            exact ⟨rfl, hs.tail⟩
          · obtain rfl := hBf fun h => by have := h.2.2.2.2; omega
            refine zz ?_
            refine MC.ret rfl ?_
            exact ⟨rfl, hs.tail⟩
        · obtain rfl := hBf fun h => by have := h.2.2.2.1; omega
          refine zz ?_
          refine MC.ret rfl ?_
          exact ⟨rfl, hs.tail⟩
      · refine zz ?_
        by_cases ht : t = []
        · have hc4 : k = 4 ∨ t = [] := .inr ht
          refine MC.cond rfl (fun h => absurd ht h) (fun _ => ?_)
          refine zz ?_
          rcases Int.lt_or_le k 5 with h5 | h5
          · rcases Nat.eq_zero_or_pos l.length with hll | hll
            · refine zz ?_
              rcases Nat.eq_zero_or_pos ks.length with hkl | hkl
              · obtain rfl := hBt k0 k6 hc3 hc4 (.inr hll) (.inr hkl)
                refine zz ?_
                refine MC.ret rfl ?_
                exact ⟨rfl, hs.tail⟩
              · obtain rfl := hBf fun h => by have := h.2.2.2.2; omega
                refine zz ?_
                refine MC.ret rfl ?_
                exact ⟨rfl, hs.tail⟩
            · obtain rfl := hBf fun h => by have := h.2.2.2.1; omega
              refine zz ?_
              refine MC.ret rfl ?_
              exact ⟨rfl, hs.tail⟩
          · rcases Int.lt_or_le k 6 with h6 | h6
            · refine zz ?_
              rcases Nat.eq_zero_or_pos ks.length with hkl | hkl
              · obtain rfl := hBt k0 k6 hc3 hc4 (.inl h5) (.inr hkl)
                refine zz ?_
                refine MC.ret rfl ?_
                exact ⟨rfl, hs.tail⟩
              · obtain rfl := hBf fun h => by have := h.2.2.2.2; omega
                refine zz ?_
                refine MC.ret rfl ?_
                exact ⟨rfl, hs.tail⟩
            · obtain rfl := hBt k0 k6 hc3 hc4 (.inl h5) (.inl (by omega))
              refine zz ?_
              refine MC.ret rfl ?_
              exact ⟨rfl, hs.tail⟩
        · obtain rfl := hBf fun h => by rcases h.2.2.1 with h | h; exact h4 h; exact ht h
          refine MC.cond rfl (fun _ => ?_) (fun h => absurd ht h)
          refine zz ?_
          refine MC.ret rfl ?_
          exact ⟨rfl, hs.tail⟩
    · obtain rfl := hBf fun h => by rcases h.2.1 with h | h; exact h3 h; exact hz h
      refine MC.cond rfl (fun _ => ?_) (fun h => absurd hz h)
      refine zz ?_
      refine MC.ret rfl ?_
      exact ⟨rfl, hs.tail⟩
end Go.Proofs.YtkccjgllanpebaaGreatDoor

namespace Go.Proofs.YtkccjgllanpebaaGreatDoor
open Go Go.Sl
attribute [local irreducible] LooksAt
theorem devr_open {F : List Assn} {pd : Nat} {D : Dev} {w : World} (hs : Sat (devr pd D :: F) w) : ∃ rd, Sat (dev pd { D with reads := rd } :: F) w := Sat.ex_iff.1 hs
theorem devr_shut {F : List Assn} {pd : Nat} {D : Dev} {rd : Int} {w : World} (hs : Sat (dev pd { D with reads := rd } :: F) w) : Sat (devr pd D :: F) w := Sat.ex_iff.2 ⟨rd, hs⟩
def cgetP (F : List Assn) (q pd k : Nat) (D : Dev) (sec : Nat → Bq) (H : Nat → Prop) (v : Value) (w' : World) : Prop :=
  (∃ vb, v = .tuple #[vb, int 0] ∧ Sat (sl vb 5 1 256 (bytesV (sec k)) :: cach q pd sec H (some k) :: devr pd D :: F) w') ∨
  (D.fuse = 1 ∧ ∃ vb, v = .tuple #[vb, int 150] ∧ Sat (cach q pd sec H none :: devr pd D :: F) w')
theorem frame_splice {fs : List Frm} {i : Nat} {f' : Frm} (hi : i < fs.length) : splice (frsV fs) (0 + ((i : Nat) : Int).toNat * 5) (Frm.row f') = frsV (fs.set i f') := by
  rw [Int.toNat_natCast, Nat.zero_add]
  exact rows_splice (f := Frm.row) (c := 5) (fun _ _ => rfl) hi rfl
set_option maxHeartbeats 4000000 in
theorem cget_spec {F : List Assn} {q pd k : Nat} {D : Dev} {sec : Nat → Bq} {H : Nat → Prop} {w : World} (hs : Sat (cach q pd sec H none :: devr pd D :: F) w) (hD : D.ok) (hO : D.O.length ≤ 100000) (hk : k < D.S.length) (hH : H k) (hsec : D.get k = sec k) :
    Ret Tryz.prog 136 [ptr q, int ((k : Nat) : Int)] w fun v w' => cgetP F q pd k D sec H v w' := by
  have hfew2 := hD.few
  have hsl := get_length hD hk
  rw [hsec] at hsl
  obtain ⟨⟨bl, qc, hand, hits, misses, fs, buf, sn, rn, pool⟩, ⟨hca, hha, hfew⟩, hs⟩ := cach_open hs
  dsimp only [] at hca hha hfew hs
  obtain ⟨rd, hs⟩ := devr_open (hs.pickF 5 [4, 0, 1, 2, 3] rfl rfl)
  have hs := hs.pickF 5 [1, 2, 3, 4, 0] rfl rfl
  have hDr : ({ D with reads := rd } : Dev).ok := { hD with }
  have hcn := cnone_spec (q := q) hs
  have hsz := size_spec (p := pd) (hs.pull 4 rfl)
  dsimp only [] at hsz
  have hfi := find_spec (q := q) (fs := fs) hs rfl hfew ((k : Nat) : Int)
  refine Ret.enter [(true, ptr q), (true, int ((k : Nat) : Int))] _ Tryz.func136 rfl Tryz.ntmps136 rfl ?_
  refine zz ?_
  refine zc rfl (hcn) ?_
  rintro _ w ⟨rfl, rfl⟩
  refine zz ?_
  refine zc rfl (hsz) ?_
  rintro _ w ⟨rfl, rfl⟩
  refine zz ?_
  refine zc rfl (hfi) ?_
  rintro _ w ⟨rfl, ⟨i, hi, hh, hks, rfl⟩ | ⟨hno, rfl⟩⟩
  · have hca' := hca.hit hi hh hks
    have hp0 := hca.pins0 _ (List.getElem_mem hi)
    obtain ⟨k', g1, g2, g3, g4⟩ := hca.held _ (List.getElem_mem hi) hh
    obtain rfl : k = k' := by rw [hks] at g1; omega
    have h2 : (frsV fs)[i * 5 + 2]? = some (int 0) := by
      have := frs_at (fs := fs) (i := i) (r := 2) hi (by decide)
      rw [Int.toNat_natCast, Nat.zero_add] at this
      rw [this]; show some (int fs[i].pins) = _; rw [hp0]
    have h4 : (frsV (fs.set i { fs[i] with pins := 1, late := true }))[i * 5 + 4]? = some fs[i].v := by
      have := frs_at (fs := fs.set i { fs[i] with pins := 1, late := true }) (i := i) (r := 4) (by rw [List.length_set]; exact hi) (by decide)
      rw [Int.toNat_natCast, Nat.zero_add] at this
      rw [this, List.getElem_set_self]; rfl
    refine zz ?_
    refine MC.la true (la_load1 hs rfl h2) rfl ?_
    refine zz ?_
    refine MC.does true (does_store1 hs rfl rfl rfl (by rw [frsV_length]; omega)) rfl ?_; intro _ w hs
    rw [frs_set (f' := { fs[i] with pins := 1 }) hi rfl (by decide)] at hs
    refine zz ?_
    refine MC.does true (does_store1 hs rfl rfl rfl (by rw [frsV_length, List.length_set]; omega)) rfl ?_; intro _ w hs
    rw [frs_set (f' := { fs[i] with pins := 1, late := true }) (by rw [List.length_set]; exact hi) (by rw [List.getElem_set_self]; rfl) (by decide), List.set_set] at hs
    refine zg tab rfl rfl ?_
    refine MC.la false (la_load1 hs rfl (by rfl)) rfl ?_
    refine MC.pure (f := true) (po_bin rfl rfl (br_add rfl)) rfl ?_
    refine zz ?_
    refine MC.does true (does_store1 hs rfl rfl rfl (by first | decide | (simp; done) | (simp; omega))) rfl ?_; intro _ w hs
    refine zz ?_
    refine MC.does true (does_buildSlice0 hs) rfl ?_
    rintro _ w ⟨b1, rfl, hs⟩
    have hs := Sat.sl_mk (xs := []) (spare := []) (n := 0) (c := 0) (size := 1) hs (Nat.le_refl _) rfl rfl
    have hpo := bods_rd (hs.pull 4 rfl) g4
    rw [g3] at hpo
    have hpl : RdS (bods 5 pool :: dev pd { D with reads := rd } :: F) 1 fs[i].v (sec k).length (bytesV (sec k)) := by
      have := bods_rd (hs.tail.tail.tail.tail) g4
      rw [g3] at this; exact this
    refine zz ?_
    refine MC.la true (la_load1 hs rfl h4) rfl ?_
    refine zz ?_
    refine MC.does true (does_append hs rfl rfl (RdS.src hpl (bytesV_one _)) (by omega) (by omega)) rfl ?_
    intro vn w hs
    rw [Nat.zero_add, List.nil_append, hsl] at hs
    refine zz ?_
    refine MC.ret rfl ?_
    refine .inl ⟨vn, rfl, ?_⟩
    have hs := hs.pickF 6 [1, 2, 3, 4, 5, 0] rfl rfl
    have hl2 : (fs.set i { fs[i] with pins := 1, late := true }).length = fs.length := List.length_set
    have h5 := cach_shut (q := q) (pd := pd) (x := ⟨bl, qc, hand, _, misses, fs.set i { fs[i] with pins := 1, late := true }, buf, sn, rn, pool⟩) ⟨hca', by rw [List.length_set]; exact hha, by rw [List.length_set]; exact hfew⟩ (by
      show Sat (chn qc (fs.set i { fs[i] with pins := 1, late := true }).length buf sn rn :: cblk q pd bl (fs.set i { fs[i] with pins := 1, late := true }).length qc _ _ misses :: _) w
      rw [hl2]
      exact hs)
    have h6 := devr_shut (D := D) (h5.pickF 3 [1, 0, 2] rfl rfl)
    exact h6.pickF 3 [2, 1, 0] rfl rfl
  · have hbn : ∀ i ∈ buf, i < fs.length := fun i hi => by obtain ⟨h, _⟩ := (hca.free i).1 hi; exact h
    have hroom := room_spec (q := q) hs rfl (by omega) hfew hha hca.pins0 hbn
    refine zz ?_
    refine zc rfl (hroom) ?_
    rintro _ w ⟨i, hand', fs', buf', rn', hi, hha', rfl, hcase, hs⟩
    obtain ⟨hl', hhole, hno'⟩ : fs'.length = fs.length ∧ CaHole fs' buf' pool sec H i ∧ ∀ (j : Nat) (h : j < fs'.length), fs'[j].held = true → fs'[j].sec ≠ ((k : Nat) : Int) := by
      rcases hcase with ⟨rfl, rfl⟩ | ⟨rfl, rfl, hlo⟩
      · exact ⟨rfl, hca.holeA, fun j h => hno _ (List.getElem_mem h)⟩
      · refine ⟨hlo.1, hca.holeB hlo, fun j h hh => ?_⟩
        have hj : j < fs.length := by rw [← hlo.1]; exact h
        obtain ⟨b, hb⟩ := hlo.2 j hj h
        rw [hb] at hh ⊢
        exact hno fs[j] (List.getElem_mem hj) hh
    clear hcase hca hno hbn
    have hi' : i < fs'.length := by omega
    have hs := hs.pickF 5 [4, 0, 1, 2, 3] rfl rfl
    have hwr : ({ D with reads := rd } : Dev).wrong ((k : Nat) : Int) 256 = if D.fuse = 1 then 150 else 0 := by
      unfold Dev.wrong
      dsimp only []
      rw [if_neg (by omega), if_neg (by decide)]
    have hgk : ({ D with reads := rd } : Dev).get ((k : Nat) : Int).toNat = sec k := by rw [Int.toNat_natCast]; exact hsec
    have hrd : Ret Tryz.prog 155 [ptr pd, int ((k : Nat) : Int)] w fun v w' => (D.fuse ≠ 1 ∧ ∃ vb, v = .tuple #[vb, int 0] ∧ Sat (sl vb 5 1 256 (bytesV (sec k)) :: dev pd ({ D with reads := rd } : Dev).red :: chn qc fs.length buf' sn rn' :: cblk q pd bl fs.length qc ((hand' : Nat) : Int) hits misses :: fblk bl fs' :: bods 5 pool :: F) w') ∨ (D.fuse = 1 ∧ v = .tuple #[.slice none 0 0, int 150] ∧ Sat (dev pd { D with reads := rd } :: chn qc fs.length buf' sn rn' :: cblk q pd bl fs.length qc ((hand' : Nat) : Int) hits misses :: fblk bl fs' :: bods 5 pool :: F) w') :=
      (read_spec (k := ((k : Nat) : Int)) hs hDr hO).mono fun v w' h => by
        by_cases hf : D.fuse = 1
        · rw [if_pos hf] at hwr
          rw [if_neg (by rw [hwr]; decide), hwr] at h
          exact .inr ⟨hf, h⟩
        · rw [if_neg hf] at hwr
          rw [if_pos hwr, hgk] at h
          exact .inl ⟨hf, h⟩
    rw [← hl'] at hs hi hha' hfew hrd
    refine zz ?_
    refine zc rfl (hrd) ?_
    rintro v w (⟨hf, vb, rfl, hs⟩ | ⟨hf, rfl, hs⟩)
    rotate_left
    ·
      have hs := hs.pickF 5 [1, 2, 3, 4, 0] rfl rfl
      refine zz ?_
      refine MC.pure (f := true) (po_build (ls := []) (out := [bool false, int 0, int 0, bool false, .slice none 0 0]) rfl rfl trivial rfl) rfl ?_
      refine zz ?_
      refine MC.does true (does_store (vs := [bool false, int 0, int 0, bool false, .slice none 0 0]) hs rfl rfl rfl rfl (all1 rfl) (by rw [frsV_length, Int.toNat_natCast]; show _ + 5 ≤ _; omega)) rfl ?_
      intro _ w hs
      have e : splice (frsV fs') (0 + ((i : Nat) : Int).toNat * 5) [bool false, int 0, int 0, bool false, .slice none 0 0] = frsV (fs'.set i Frm.zero) := frame_splice (f' := Frm.zero) hi'
      rw [e] at hs
      refine zz ?_
      have hrm := hhole.room hi'
      refine MC.sendField hs rfl rfl (by rw [bufV_length]; exact hrm) rfl rfl rfl fun w hs => ?_
      have e3 : bufV buf' ++ [int ((i : Nat) : Int)] = bufV (buf' ++ [i]) := by simp [bufV]
      rw [e3] at hs
      refine zz ?_
      refine MC.ret rfl ?_
      refine .inr ⟨hf, _, rfl, ?_⟩
      have hl2 : (fs'.set i Frm.zero).length = fs'.length := List.length_set
      have h5 := cach_shut (q := q) (pd := pd) (x := ⟨bl, qc, hand', hits, misses, fs'.set i Frm.zero, buf' ++ [i], _, rn', pool⟩) ⟨hhole.fail hi', by rw [List.length_set]; exact hha', by rw [List.length_set]; exact hfew⟩ (by
        show Sat (chn qc (fs'.set i Frm.zero).length (buf' ++ [i]) _ rn' :: cblk q pd bl (fs'.set i Frm.zero).length qc _ hits misses :: _) w
        rw [hl2]
        exact hs)
      have h6 := devr_shut (D := D) (h5.pickF 2 [1, 0] rfl rfl)
      exact h6.pickF 2 [1, 0] rfl rfl
    · obtain ⟨-, qv, cv, rfl, -⟩ := hs.sl_len
      have hs := hs.pickF 6 [2, 3, 4, 0, 5, 1] rfl rfl
      refine zz ?_
      refine MC.pure (f := true) (po_build (ls := [(0, [bool true]), (1, [int ((k : Nat) : Int)]), (2, [int 1]), (3, [bool true]), (4, [.slice qv 256 cv])]) (out := [bool true, int ((k : Nat) : Int), int 1, bool true, .slice qv 256 cv]) rfl rfl ⟨⟨_, rfl, by simp⟩, ⟨_, rfl, by simp⟩, ⟨_, rfl, by simp⟩, ⟨_, rfl, by simp⟩, ⟨_, rfl, by simp⟩, trivial⟩ rfl) rfl ?_
      refine zz ?_
      refine MC.does true (does_store (vs := [bool true, int ((k : Nat) : Int), int 1, bool true, .slice qv 256 cv]) hs rfl rfl rfl rfl (all1 rfl) (by rw [frsV_length, Int.toNat_natCast]; show _ + 5 ≤ _; omega)) rfl ?_
      intro _ w hs
      have e : splice (frsV fs') (0 + ((i : Nat) : Int).toNat * 5) [bool true, int ((k : Nat) : Int), int 1, bool true, .slice qv 256 cv] = frsV (fs'.set i ⟨true, ((k : Nat) : Int), 1, true, qv, 256, cv, sec k⟩) := frame_splice (f' := ⟨true, ((k : Nat) : Int), 1, true, qv, 256, cv, sec k⟩) hi'
      rw [e] at hs
      refine zg tab rfl rfl ?_
      refine MC.la false (la_load1 hs rfl (by rfl)) rfl ?_
      refine MC.pure (f := true) (po_bin rfl rfl (br_add rfl)) rfl ?_
      refine zz ?_
      refine MC.does true (does_store1 hs rfl rfl rfl (by first | decide | (simp; done) | (simp; omega))) rfl ?_; intro _ w hs
      refine zz ?_
      refine MC.does true (does_buildSlice0 hs) rfl ?_
      rintro _ w ⟨b1, rfl, hs⟩
      have hs := Sat.sl_mk (xs := []) (spare := []) (n := 0) (c := 0) (size := 1) hs (Nat.le_refl _) rfl rfl
      have hpl := RdS.of_sl (hs.tail.tail.tail.tail)
      refine zz ?_
      refine MC.does true (does_append hs rfl rfl (RdS.src hpl (bytesV_one _)) (by omega) (by omega)) rfl ?_
      intro vn w hs
      rw [Nat.zero_add, List.nil_append] at hs
      refine zz ?_
      refine MC.ret rfl ?_
      refine .inl ⟨vn, rfl, ?_⟩
      have hs := hs.pickF 7 [4, 5, 1, 2, 3, 6, 0] rfl rfl
      have e256 : (256 : Nat) = (sec k).length := hsl.symm
      have hs2 : Sat (bods 5 (pool ++ [(.slice qv 256 cv, sec k)]) :: chn qc fs'.length buf' sn rn' :: cblk q pd bl fs'.length qc ((hand' : Nat) : Int) hits (IntKind.i64.wrap (misses + 1)) :: fblk bl (fs'.set i ⟨true, ((k : Nat) : Int), 1, true, qv, 256, cv, sec k⟩) :: dev pd ({ D with reads := rd } : Dev).red :: sl vn 5 1 256 (bytesV (sec k)) :: F) w := by
        refine bods_snoc (v := .slice qv 256 cv) (b := sec k) ?_
        rw [hsl]
        exact hs
      have hl2 : (fs'.set i ⟨true, ((k : Nat) : Int), 1, true, qv, 256, cv, sec k⟩).length = fs'.length := List.length_set
      have h5 := cach_shut (q := q) (pd := pd) (x := ⟨bl, qc, hand', hits, _, fs'.set i ⟨true, ((k : Nat) : Int), 1, true, qv, 256, cv, sec k⟩, buf', sn, rn', pool ++ [(.slice qv 256 cv, sec k)]⟩) ⟨hhole.fill hi' hH hno' qv 256 cv, by rw [List.length_set]; exact hha', by rw [List.length_set]; exact hfew⟩ (by
        show Sat (chn qc (fs'.set i _).length buf' sn rn' :: cblk q pd bl (fs'.set i _).length qc _ hits _ :: _) w
        rw [hl2]
        exact hs2.pickF 4 [1, 2, 3, 0] rfl rfl)
      have h6 := devr_shut (D := D) (rd := IntKind.i64.wrap (rd + 1)) (h5.pickF 3 [1, 0, 2] rfl rfl)
      exact h6.pickF 3 [2, 1, 0] rfl rfl
end Go.Proofs.YtkccjgllanpebaaGreatDoor

namespace Go.Proofs.YtkccjgllanpebaaGreatDoor
open Go Go.Sl Go.Tr Go.Kv
attribute [local irreducible] LooksAt
theorem allV_stop {l : List V} {q : V → Bool} {i : Nat} (h : i < l.length) (hq : q l[i] = false) : l.all q = false := by
  rw [List.all_eq_false]
  exact ⟨l[i], List.getElem_mem h, by rw [hq]; decide⟩
theorem allV_take {l : List V} {q : V → Bool} {i : Nat} (h : i < l.length) : (l.take (i + 1)).all q = ((l.take i).all q && q l[i]) := by
  rw [List.take_succ_eq_append_getElem h, List.all_append]; simp
theorem every_spec {G : List Assn} {w : World} {f : FuncId} [Fun Tryz.prog f] {cap : List Value} {l : List V} {rows : List (List Value)} {q : V → Bool} {vl : Value} (hs : Sat G w) (hl : RdS G 6 vl l.length rows.flatten) (hvl : VL G l rows) (hn : l.length ≤ 100000)
    (hq : ∀ (i : Nat) (h : i < l.length) (r : List Value) (w : World) (A : Assn), VR (A :: G) l[i] r → Sat (A :: G) w → Ret Tryz.prog f (.agg r.toArray :: cap) w fun u w' => u = bool (q l[i]) ∧ Sat (A :: G) w') :
    Ret Tryz.prog 89 [vl, .func (.func f) #[] cap.toArray] w fun u w' => u = bool (l.all q) ∧ Sat G w' := by
  obtain ⟨p, c, rfl, hc, _⟩ := hl.shape
  obtain ⟨B, hB⟩ : ∃ B, l.all q = B := ⟨_, rfl⟩
  rw [hB]
  refine Ret.enter [(true, .slice p l.length c), (true, .func (.func f) #[] cap.toArray)] _ Tryz.func89 rfl Tryz.ntmps89 rfl ?_
  refine zz ?_
  refine MC.loop (σ := Nat) (fun i => [(0, true, .slice p l.length c), (1, true, .func (.func f) #[] cap.toArray), (7, true, .slice p l.length c), (8, true, int ((l.length : Nat) : Int)), (9, true, int ((i : Nat) : Int))])
    (fun i w => i ≤ l.length ∧ (l.take i).all q = true ∧ Sat G w) (fun i => l.length - i) 0 zi ⟨Nat.zero_le _, rfl, hs⟩ ?_
  clear hs
  rintro i w ⟨hi, ha, hs⟩
  dsimp only [] at hi ha hs ⊢
  rcases Nat.lt_or_ge i l.length with hlt | hge
  · obtain ⟨bl, ol, rfl, hrl⟩ := hl.at_ (by omega)
    have hri : i < rows.length := by rw [hvl.len]; exact hlt
    have hvr := hvl.row i l[i] rows[i] (List.getElem?_eq_getElem hlt) (List.getElem?_eq_getElem hri)
    have hr6 := hvr.len
    obtain ⟨r, hr⟩ : ∃ r, rows[i] = r := ⟨_, rfl⟩
    rw [hr] at hvr hr6
    have hat := flat_take hvl.six hri
    rw [hr] at hat
    obtain ⟨x, hx⟩ : ∃ x, l[i] = x := ⟨_, rfl⟩
    have hqi := hq i hlt
    have hal := allV_take (q := q) hlt
    have hst := fun h => allV_stop (q := q) hlt h
    rw [hx] at hvr hqi hal hst
    obtain ⟨k, m, e, t, l2, k2⟩ := x
    obtain ⟨ql, qk, cl, ck, rws, rfl, -⟩ := hvr.open_
    refine zz ?_
    refine MC.la true (la_loadV_rd hrl hs (j := ((i : Nat) : Int).toNat * 6) (vs := [int k, int m, int e, str t, .slice ql l2.length cl, .slice qk k2.length ck]) rfl hat hr6 rfl) rfl ?_
    refine zz ?_
    refine MC.does true (does_alloc hs) rfl ?_; rintro _ w ⟨b6, rfl, hs⟩
    refine zz ?_
    refine MC.does true (does_store (vs := [int k, int m, int e, str t, .slice ql l2.length cl, .slice qk k2.length ck]) hs rfl rfl rfl rfl (all1 rfl) (by simp)) rfl ?_; intro _ w hs; rw [splice_all (by rfl)] at hs
    refine zz ?_
    refine MC.la true (la_loadV hs rfl (vs := [int k, int m, int e, str t, .slice ql l2.length cl, .slice qk k2.length ck]) rfl rfl rfl) rfl ?_
    refine zz ?_
    refine MC.does true (does_callv (f := f) (first := []) (capt := cap) (vs := [.agg #[int k, int m, int e, str t, .slice ql l2.length cl, .slice qk k2.length ck]]) rfl rfl (hqi _ w (blk b6 [int k, int m, int e, str t, .slice ql l2.length cl, .slice qk k2.length ck] 32) hvr.up hs)) rfl ?_
    rintro _ w ⟨rfl, hs⟩
    have hs : Sat G w := hs.tail
    cases hv : q ⟨k, m, e, t, l2, k2⟩ with
    | true =>
      refine zz ?_
      exact MC.again (i + 1) zi ⟨hlt, by rw [hal, ha, hv]; rfl, hs⟩ (by show l.length - (i + 1) < l.length - i; omega)
    | false =>
      obtain rfl : B = false := by rw [← hB, hst hv]
      refine zz ?_
      refine MC.ret rfl ?_
      exact ⟨rfl, hs⟩
  · obtain rfl : i = l.length := by omega
    rw [List.take_length] at ha
    obtain rfl : B = true := by rw [← hB, ha]
    refine zz ?_
    refine MC.ret rfl ?_
    exact ⟨rfl, hs⟩
mutual
def shV : V → Nat → Bool
  | _, 0 => false
  | .mk _ _ _ _ l _, n + 1 => shL l n
def shL : List V → Nat → Bool
  | [], _ => true
  | v :: l, n => shV v n && shL l n
end
theorem shL_all (n : Nat) : ∀ l : List V, shL l n = l.all fun v => shV v n
  | [] => by rw [shL]; rfl
  | v :: l => by rw [shL, shL_all n l]; rfl
theorem sizeL_mem {l : List V} {v : V} (h : v ∈ l) : sizeV v ≤ sizeL l := by
  induction l with
  | nil => cases h
  | cons a l ih =>
    rw [sizeL]
    rcases List.mem_cons.1 h with rfl | h
    · omega
    · have := ih h; omega
theorem sizeL_len : ∀ l : List V, l.length ≤ sizeL l
  | [] => Nat.zero_le _
  | .mk k m e t l' ks :: l => by
    rw [sizeL, sizeV, List.length_cons]
    have := sizeL_len l
    omega
theorem sizeV_sub {k m e : Int} {t : Bs} {l : List V} {ks : List Bs} : t.length + sizeL l + 1 ≤ sizeV ⟨k, m, e, t, l, ks⟩ ∧ ks.length ≤ sizeV ⟨k, m, e, t, l, ks⟩ ∧ ∀ x ∈ ks, x.length ≤ sizeV ⟨k, m, e, t, l, ks⟩ := by
  rw [sizeV]
  have h : ks.length ≤ (ks.map fun k => 1 + k.length).sum ∧ ∀ x ∈ ks, x.length ≤ (ks.map fun k => 1 + k.length).sum := by
    induction ks with
    | nil => exact ⟨Nat.zero_le _, fun x h => by cases h⟩
    | cons a ks ih =>
      rw [List.map_cons, List.sum_cons, List.length_cons]
      refine ⟨by have := ih.1; omega, fun x hx => ?_⟩
      rcases List.mem_cons.1 hx with rfl | hx
      · omega
      · have := ih.2 x hx; omega
  exact ⟨by omega, by have := h.1; omega, fun x hx => by have := h.2 x hx; omega⟩
theorem shallow_spec : ∀ (v : V) {F : List Assn} {w : World} {r : List Value} {n : Nat} (hs : Sat F w) (hv : VR F v r) (hn : n ≤ 100) (hz : sizeV v ≤ 1000),
    Ret Tryz.prog 46 [.agg r.toArray, int ((n : Nat) : Int)] w fun u w' => u = bool (shV v n) ∧ Sat F w' := by
  refine V.ind ?_
  intro k m e t l ks ih F w r n hs hv hn hz
  obtain ⟨ql, qk, cl, ck, rows, rfl, hcl, hck, hl, hvl, hk, -⟩ := hv.open_
  have hll := sizeL_len l
  have hz2 := (sizeV_sub (k := k) (m := m) (e := e) (t := t) (l := l) (ks := ks)).1
  refine Ret.enter [(true, .agg #[int k, int m, int e, str t, .slice ql l.length cl, .slice qk ks.length ck]), (true, int ((n : Nat) : Int))] _ Tryz.func46 rfl Tryz.ntmps46 rfl ?_
  refine zz ?_
  refine MC.does true (does_box hs rfl rfl) rfl ?_; rintro _ w ⟨b2, rfl, hs⟩
  refine zz ?_
  refine MC.does true (does_box hs rfl rfl) rfl ?_; rintro _ w ⟨b3, rfl, hs⟩
  cases n with
  | zero =>
    refine zz ?_
    refine MC.ret rfl ?_
    exact ⟨by rw [shV]; rfl, hs.tail.tail⟩
  | succ n =>
    refine zz ?_
    refine MC.pure (f := true) (po_makeFunc (vf := []) (vc := [ptr b3]) rfl rfl) rfl ?_
    refine zz ?_
    have he := every_spec (f := 90) (cap := [ptr b3]) (q := fun v => shV v n) hs hl.up hvl.up (by omega) (fun i h r w A hr hs => by
      have hzi := sizeL_mem (List.getElem_mem h)
      obtain ⟨x, hx⟩ : ∃ x, l[i] = x := ⟨_, rfl⟩
      have hih := fun {w : World} {F : List Assn} => @ih l[i] (List.getElem_mem h) F w r n
      rw [hx] at hr hih hzi ⊢
      obtain ⟨k1, m1, e1, t1, l1, ks1⟩ := x
      obtain ⟨ql, qk, cl, ck, rws, rfl, -⟩ := hr.open_
      have hs2 := hs
      refine Ret.enter [(true, .agg #[int k1, int m1, int e1, str t1, .slice ql l1.length cl, .slice qk ks1.length ck]), (true, ptr b3)] _ Tryz.func90 rfl Tryz.ntmps90 rfl ?_
      refine zz ?_
      refine MC.does true (does_box hs rfl rfl) rfl ?_; rintro _ w ⟨b5, rfl, hs⟩
      refine zz ?_
      refine MC.la true (la_loadV hs rfl (vs := [int k1, int m1, int e1, str t1, .slice ql l1.length cl, .slice qk ks1.length ck]) rfl rfl rfl) rfl ?_
      have hih2 := hih hs hr.up (by omega) (by omega)
      rw [show ((n : Nat) : Int) = ((n + 1 : Nat) : Int) - 1 by omega] at hih2
      refine zz ?_
      refine zc rfl (hih2) ?_
      rintro _ w ⟨rfl, hs⟩
      refine zz ?_
      refine MC.ret rfl ?_
      exact ⟨rfl, hs.tail⟩)
    refine zc rfl (he) ?_
    rintro _ w ⟨rfl, hs⟩
    refine zz ?_
    refine MC.ret rfl ?_
    exact ⟨by rw [shV, shL_all]; rfl, hs.tail.tail⟩
mutual
noncomputable def mayV : V → Bool
  | .mk k m e t l ks => bareB k m e t l ks && (numB m e && (Lib.validD t && (risB ks && ((decide (k ≠ 6) || decide (ks.length = l.length)) && mayL l))))
noncomputable def mayL : List V → Bool
  | [] => true
  | v :: l => mayV v && mayL l
end
theorem mayL_all : ∀ l : List V, mayL l = l.all mayV
  | [] => by rw [mayL]; rfl
  | v :: l => by rw [mayL, mayL_all l]; rfl
set_option maxHeartbeats 4000000 in
theorem may_spec : ∀ (v : V) {F : List Assn} {w : World} {r : List Value} (hs : Sat F w) (hT : Tabs F) (hv : VR F v r) (hz : sizeV v ≤ 1000),
    Ret Tryz.prog 47 [.agg r.toArray] w fun u w' => u = bool (mayV v) ∧ Sat F w' := by
  refine V.ind ?_
  intro k m e t l ks ih F w r hs hT hv hz
  have hbare := fun {w : World} {G : List Assn} (hs : Sat (G ++ F) w) (hg : VR (G ++ F) ⟨k, m, e, t, l, ks⟩ r) => bare_spec hs hg
  have hv0 := hv
  obtain ⟨ql, qk, cl, ck, rows, rfl, hcl, hck, hl, hvl, hk, ⟨-, -, -, -, hik, him, hie⟩⟩ := hv.open_
  have hll := sizeL_len l
  obtain ⟨hz2, hz3, hz4⟩ := sizeV_sub (k := k) (m := m) (e := e) (t := t) (l := l) (ks := ks)
  obtain ⟨B, hB⟩ : ∃ B, mayV ⟨k, m, e, t, l, ks⟩ = B := ⟨_, rfl⟩
  rw [hB]
  rw [mayV] at hB
  clear hbare
  refine Ret.enter [(true, .agg #[int k, int m, int e, str t, .slice ql l.length cl, .slice qk ks.length ck])] _ Tryz.func47 rfl Tryz.ntmps47 rfl ?_
  refine zz ?_
  refine MC.does true (does_box hs rfl rfl) rfl ?_; rintro _ w ⟨b1, rfl, hs⟩
  refine zz ?_
  refine MC.la true (la_loadV hs rfl (vs := [int k, int m, int e, str t, .slice ql l.length cl, .slice qk ks.length ck]) rfl rfl rfl) rfl ?_
  refine zz ?_
  refine zc rfl (bare_spec hs hv0.up) ?_
  rintro _ w ⟨rfl, hs⟩
  cases h1 : bareB k m e t l ks with
  | false =>
    rw [h1, Bool.false_and] at hB
    subst hB
    refine zz ?_
    refine MC.ret rfl ?_
    exact ⟨rfl, hs.tail⟩
  | true =>
  rw [h1, Bool.true_and] at hB
  refine zz ?_
  refine MC.la true (la_loadV hs rfl (vs := [int m, int e]) rfl rfl rfl) rfl ?_
  refine zz ?_
  refine zc rfl (nright_spec hs hT.up him hie) ?_
  rintro _ w ⟨rfl, hs⟩
  cases h2 : numB m e with
  | false =>
    rw [h2, Bool.false_and] at hB
    subst hB
    refine zz ?_
    refine MC.ret rfl ?_
    exact ⟨rfl, hs.tail⟩
  | true =>
  rw [h2, Bool.true_and] at hB
  refine zz ?_
  refine zc rfl (tright_spec t hs hT.up (by omega)) ?_
  rintro _ w ⟨rfl, hs⟩
  cases h3 : Lib.validD t with
  | false =>
    rw [h3, Bool.false_and] at hB
    subst hB
    refine zz ?_
    refine MC.ret rfl ?_
    exact ⟨rfl, hs.tail⟩
  | true =>
  rw [h3, Bool.true_and] at hB
  refine zz ?_
  refine zc rfl (rising_spec hs hT.up hk.up (by omega) (fun x hx => by have := hz4 x hx; omega)) ?_
  rintro _ w ⟨rfl, hs⟩
  cases h4 : risB ks with
  | false =>
    rw [h4, Bool.false_and] at hB
    subst hB
    refine zz ?_
    refine MC.ret rfl ?_
    exact ⟨rfl, hs.tail⟩
  | true =>
  rw [h4, Bool.true_and] at hB
  have he := fun {w : World} (hs : Sat (blk b1 [int k, int m, int e, str t, .slice ql l.length cl, .slice qk ks.length ck] 32 :: F) w) => every_spec (f := 47) (cap := []) (q := mayV) hs hl.up hvl.up (by omega) (fun i h r w A hr hs => ih l[i] (List.getElem_mem h) hs hT.up hr (by have := sizeL_mem (List.getElem_mem h); omega))
  rcases Int.decEq k 6 with h6 | h6
  · rw [decide_eq_true h6, Bool.true_or, Bool.true_and] at hB
    subst hB
    refine zz ?_
    refine zc rfl (he hs) ?_
    rintro _ w ⟨rfl, hs⟩
    rw [mayL_all]
    refine zz ?_
    refine MC.ret rfl ?_
    exact ⟨rfl, hs.tail⟩
  · rw [decide_eq_false (not_not_intro h6), Bool.false_or] at hB
    rcases Nat.decEq ks.length l.length with h7 | h7
    · rw [decide_eq_false h7, Bool.false_and] at hB
      subst hB
      refine zz ?_
      refine MC.ret rfl ?_
      exact ⟨rfl, hs.tail⟩
    · rw [decide_eq_true h7, Bool.true_and] at hB
      subst hB
      refine zz ?_
      refine zc rfl (he hs) ?_
      rintro _ w ⟨rfl, hs⟩
      rw [mayL_all]
      refine zz ?_
      refine MC.ret rfl ?_
      exact ⟨rfl, hs.tail⟩
noncomputable def rightV (v : V) : Int := if shV v 48 = false then 31 else if mayV v = false then 30 else 0
theorem vright_spec {F : List Assn} {w : World} {v : V} {r : List Value} (hs : Sat F w) (hT : Tabs F) (hv : VR F v r) (hz : sizeV v ≤ 1000) :
    Ret Tryz.prog 15 [.agg r.toArray] w fun u w' => u = int (rightV v) ∧ Sat F w' := by
  have hv0 := hv
  obtain ⟨k, m, e, t, l, ks⟩ := v
  obtain ⟨ql, qk, cl, ck, rows, rfl, hcl, hck, hl, hvl, hk, -⟩ := hv.open_
  unfold rightV
  refine Ret.enter [(true, .agg #[int k, int m, int e, str t, .slice ql l.length cl, .slice qk ks.length ck])] _ Tryz.func15 rfl Tryz.ntmps15 rfl ?_
  refine zz ?_
  refine MC.does true (does_box hs rfl rfl) rfl ?_; rintro _ w ⟨b1, rfl, hs⟩
  refine zz ?_
  refine MC.la true (la_loadV hs rfl (vs := [int k, int m, int e, str t, .slice ql l.length cl, .slice qk ks.length ck]) rfl rfl rfl) rfl ?_
  refine zz ?_
  refine zc rfl (shallow_spec _ (n := 48) hs hv0.up (by decide) hz) ?_
  rintro _ w ⟨rfl, hs⟩
  cases h1 : shV ⟨k, m, e, t, l, ks⟩ 48 with
  | false =>
    refine zz ?_
    refine MC.ret rfl ?_
    exact ⟨rfl, hs.tail⟩
  | true =>
    refine zz ?_
    refine MC.la true (la_loadV hs rfl (vs := [int k, int m, int e, str t, .slice ql l.length cl, .slice qk ks.length ck]) rfl rfl rfl) rfl ?_
    refine zz ?_
    refine zc rfl (may_spec _ hs hT.up hv0.up hz) ?_
    rintro _ w ⟨rfl, hs⟩
    cases h2 : mayV ⟨k, m, e, t, l, ks⟩ with
    | false =>
      refine zz ?_
      refine MC.ret rfl ?_
      exact ⟨rfl, hs.tail⟩
    | true =>
      refine zz ?_
      refine MC.ret rfl ?_
      exact ⟨rfl, hs.tail⟩
mutual
theorem may_ok : ∀ v : V, mayV v = true → okV v
  | .mk k m e t l ks, h => by
    rw [mayV] at h
    simp only [Bool.and_eq_true, Bool.or_eq_true, decide_eq_true_eq] at h
    obtain ⟨h1, h2, _, _, h5, h6⟩ := h
    unfold bareB at h1
    simp only [Bool.and_eq_true, decide_eq_true_eq] at h1
    obtain ⟨a1, a2, a3, a4, a5⟩ := h1
    refine ⟨a1, fun hk => a2.resolve_left hk, fun hk => a3.resolve_left hk, fun hk => List.eq_nil_of_length_eq_zero (a4.resolve_left (by omega)), fun hk => List.eq_nil_of_length_eq_zero (a5.resolve_left hk), num_ok h2, fun hk => h5.resolve_left (not_not_intro hk), mayL_ok l h6⟩
theorem mayL_ok : ∀ l : List V, mayL l = true → okL l
  | [], _ => trivial
  | v :: l, h => by
    rw [mayL, Bool.and_eq_true] at h
    exact ⟨may_ok v h.1, mayL_ok l h.2⟩
end
theorem right_ok {v : V} (h : rightV v = 0) : okV v ∧ shV v 48 = true ∧ mayV v = true := by
  unfold rightV at h
  split at h
  · cases h
  · split at h
    · cases h
    · next h1 h2 =>
      have h2 : mayV v = true := by cases h3 : mayV v with | true => rfl | false => exact absurd h3 h2
      exact ⟨may_ok v h2, by cases h3 : shV v 48 with | true => rfl | false => exact absurd h3 h1, h2⟩
end Go.Proofs.YtkccjgllanpebaaGreatDoor

namespace Go.Proofs.YtkccjgllanpebaaGreatDoor
open Go Go.Sl
attribute [local irreducible] LooksAt
theorem cach_less {F : List Assn} {q pd : Nat} {sec sec' : Nat → Bq} {H H' : Nat → Prop} {pin : Option Nat} {w : World} (h : ∀ k, H k → H' k ∧ sec k = sec' k) (hs : Sat (cach q pd sec H pin :: F) w) : Sat (cach q pd sec' H' pin :: F) w := by
  obtain ⟨x, hx, hs⟩ := cach_open hs
  exact cach_shut (x := x) ⟨hx.ca.less fun f _ _ k _ hk => h k hk, hx.hand, hx.few⟩ hs
theorem held_spec {F : List Assn} {q pd : Nat} {sec : Nat → Bq} {H : Nat → Prop} {w : World} (hs : Sat (cach q pd sec H none :: F) w) :
    Ret Tryz.prog 82 [ptr q] w fun v w' => ∃ a n c, v = .slice a n c ∧ 0 < n ∧ Sat (cach q pd sec H none :: F) w' := by
  obtain ⟨⟨bl, qc, hand, hits, misses, fs, buf, sn, rn, pool⟩, hx, hs⟩ := cach_open hs
  obtain ⟨hca, hha, hfew⟩ := id hx
  dsimp only [] at hca hha hfew hs
  have hcn := cnone_spec (q := q) hs
  refine Ret.enter [(true, ptr q)] _ Tryz.func82 rfl Tryz.ntmps82 rfl ?_
  refine zz ?_
  refine zc rfl (hcn) ?_
  rintro _ w ⟨rfl, rfl⟩
  refine zz ?_
  have hs := hs.sl_nil 3 1
  refine MC.loop (σ := Nat × Value × List Value) (fun x => [(0, true, ptr q), (3, true, x.2.1), (11, true, .slice (some ⟨bl, 0, none⟩) fs.length fs.length), (12, true, int ((fs.length : Nat) : Int)), (13, true, int ((x.1 : Nat) : Int))])
    (fun x w => x.1 ≤ fs.length ∧ Sat (sl x.2.1 3 1 x.1 x.2.2 :: chn qc fs.length buf sn rn :: cblk q pd bl fs.length qc ((hand : Nat) : Int) hits misses :: fblk bl fs :: bods 5 pool :: F) w) (fun x => fs.length - x.1) (0, .slice none 0 0, []) zi ⟨Nat.zero_le _, hs⟩ ?_
  clear hs
  rintro ⟨i, vo, xs⟩ w ⟨hi, hs⟩
  dsimp only [] at hi hs ⊢
  obtain ⟨-, qo, co, rfl, -⟩ := hs.sl_len
  rcases Nat.lt_or_ge i fs.length with hlt | hge
  · have hrow : ((frsV fs).drop (0 + ((i : Nat) : Int).toNat * 5)).take 5 = Frm.row fs[i] := by
      rw [Int.toNat_natCast, Nat.zero_add]
      exact rows_get (f := Frm.row) (c := 5) (xs := fs) (fun _ _ => rfl) hlt
    obtain ⟨f, hf⟩ : ∃ f, fs[i] = f := ⟨_, rfl⟩
    obtain ⟨held, sec, pins, late, qa, ln, cp, bb⟩ := f
    rw [hf] at hrow
    refine zz ?_
    refine MC.la true (la_loadV hs rfl (vs := [bool held, int sec, int pins, bool late, .slice qa ln cp]) hrow rfl rfl) rfl ?_
    refine MC.does true (does_alloc hs) rfl ?_
    rintro _ w ⟨b4, rfl, hs⟩
    refine zz ?_
    refine MC.does true (does_store (vs := [bool held, int sec, int pins, bool late, .slice qa ln cp]) hs rfl rfl rfl rfl (all1 rfl) (by simp)) rfl ?_
    intro _ w hs
    rw [splice_all (by rfl)] at hs
    refine MC.go1 tab rfl rfl ?_
    refine MC.la false (la_load1 hs rfl (by rfl)) rfl ?_
    refine zg tab rfl rfl ?_
    cases held
    · refine MC.condB (b := false) rfl (fun h => absurd h (by decide)) (fun _ => ?_)
      refine zz ?_
      refine MC.does true (does_buildL hs rfl rfl rfl (all1 rfl) rfl) rfl ?_; rintro _ w ⟨b5, rfl, hs⟩
      refine MC.does true (does_append hs rfl rfl (src_at rfl (all1 rfl)) (by omega) (by omega)) rfl ?_
      intro va w hs
      refine zz ?_
      exact MC.again (i + 1, va, _) zi ⟨hlt, hs.tail.tail⟩ (by show fs.length - (i + 1) < fs.length - i; omega)
    · refine MC.condB (b := true) rfl (fun _ => ?_) (fun h => absurd h (by decide))
      refine zz ?_
      refine MC.does true (does_buildL hs rfl rfl rfl (all1 rfl) rfl) rfl ?_; rintro _ w ⟨b5, rfl, hs⟩
      refine MC.does true (does_append hs rfl rfl (src_at rfl (all1 rfl)) (by omega) (by omega)) rfl ?_
      intro va w hs
      refine zz ?_
      exact MC.again (i + 1, va, _) zi ⟨hlt, hs.tail.tail⟩ (by show fs.length - (i + 1) < fs.length - i; omega)
  · obtain rfl : i = fs.length := by omega
    refine zz ?_
    refine MC.ret rfl ?_
    exact ⟨qo, fs.length, co, rfl, by omega, cach_shut hx hs.tail⟩
instance chanU : TyU Tryz.prog 155 (.chan .both 3) := ⟨Tryz.underlying155⟩
theorem rep_frames (n : Nat) : rep n (Frm.row Frm.zero) = frsV (List.replicate n Frm.zero) := rep_flatMap Frm.row n Frm.zero
theorem cnew_spec {F : List Assn} {pd : Nat} {D : Dev} {sec : Nat → Bq} {w : World} (hs : Sat (dev pd D :: F) w) (hD : D.ok) :
    Ret Tryz.prog 41 [ptr pd, int 4] w fun v w' => ∃ q, v = .tuple #[ptr q, int 0] ∧ Sat (cach q pd sec (fun _ => False) none :: dev pd D :: F) w' := by
  have hpos := hD.pos
  have hsz := size_spec hs
  refine Ret.enter [(true, ptr pd), (true, int 4)] _ Tryz.func41 rfl Tryz.ntmps41 rfl ?_
  refine zz ?_
  refine zc rfl (hsz) ?_
  rintro _ w ⟨rfl, rfl⟩
  refine zz ?_
  refine MC.cutAtS (σ := Nat × Nat × Nat) 1 (fun x => [(1, true, int 4), (6, true, ptr x.2.2)]) (fun x w => Sat (cblk x.2.2 pd x.1 4 x.2.1 0 0 0 :: chn x.2.1 4 [] 0 0 :: fblk x.1 (List.replicate 4 Frm.zero) :: dev pd D :: F) w) rfl ?_ ?_
  rotate_left
  · (try dsimp only [List.drop_succ_cons, List.drop_zero, List.take_succ_cons, List.take_zero, List.cons_append, List.nil_append])
    refine MC.draw hs [0,1,3,2,4,5,6,7] (by rfl) ?_; intro w hs
    have er : rep 4 [bool false, int 0, int 0, bool false, .slice none 0 0] = frsV (List.replicate 4 Frm.zero) := rep_frames 4
    refine zd ?_
    refine MC.fork 4 [2, 5, 6, 7] rfl rfl (does_makeSliceI 4 4 hs rfl rfl rfl rfl (Nat.le_refl _) (by omega) (by omega)) (does_makeChan (n := 4) hs rfl (by omega) (by omega)) ?_ ?_
    · rintro _ w ⟨bl, rfl, hs⟩
      refine zh ?_
      rw [er] at hs
      refine zd ?_
      refine MC.doesK true (does_makeChan (n := 4) hs rfl (by omega) (by omega)) rfl rfl rfl ?_
      rintro _ w ⟨qc, rfl, hs⟩
      refine zh ?_
      refine zd ?_
      refine MC.pure (f := true) (po_build (ls := [(0, [ptr pd]), (1, [.slice (some ⟨bl, 0, none⟩) 4 4]), (2, [.chan (some qc)])]) (out := [ptr pd, .slice (some ⟨bl, 0, none⟩) 4 4, .chan (some qc), int 0, int 0, int 0]) rfl rfl ⟨⟨_, rfl, by simp⟩, ⟨_, rfl, by simp⟩, ⟨_, rfl, by simp⟩, trivial⟩ rfl) rfl ?_
      refine MC.doesK true (does_box hs rfl rfl) rfl rfl rfl ?_
      rintro _ w ⟨q, rfl, hs⟩
      refine zh ?_
      refine zd ?_
      exact MC.meetS (bl, qc, q) zi hs
    · rintro _ w ⟨qc, rfl, hs⟩
      refine zh ?_
      refine zd ?_
      refine MC.doesK true (does_makeSliceI 4 4 hs rfl rfl rfl rfl (Nat.le_refl _) (by omega) (by omega)) rfl rfl rfl ?_
      rintro _ w ⟨bl, rfl, hs⟩
      refine zh ?_
      rw [er] at hs
      refine zd ?_
      refine MC.pure (f := true) (po_build (ls := [(0, [ptr pd]), (1, [.slice (some ⟨bl, 0, none⟩) 4 4]), (2, [.chan (some qc)])]) (out := [ptr pd, .slice (some ⟨bl, 0, none⟩) 4 4, .chan (some qc), int 0, int 0, int 0]) rfl rfl ⟨⟨_, rfl, by simp⟩, ⟨_, rfl, by simp⟩, ⟨_, rfl, by simp⟩, trivial⟩ rfl) rfl ?_
      refine MC.doesK true (does_box hs rfl rfl) rfl rfl rfl ?_
      rintro _ w ⟨q, rfl, hs⟩
      refine zh ?_
      refine zd ?_
      exact MC.meetS (bl, qc, q) zi (hs.pickF 4 [0, 2, 1, 3] rfl rfl)
  clear hs hsz
  rintro ⟨bl, qc, q⟩ w hs
  (try dsimp only [List.drop_succ_cons, List.drop_zero, List.take_succ_cons, List.take_zero, List.cons_append, List.nil_append])
  dsimp only [] at hs ⊢
  refine zz ?_
  have hs := hs.swap
  refine MC.loop (σ := Nat × Nat) (fun x => [(6, true, ptr q), (26, true, int 4), (27, true, int ((x.1 : Nat) : Int))]) (fun x w => x.1 ≤ 4 ∧ Sat (chn qc 4 (List.range x.1) x.2 0 :: cblk q pd bl 4 qc 0 0 0 :: fblk bl (List.replicate 4 Frm.zero) :: dev pd D :: F) w) (fun x => 4 - x.1) (0, 0) zi ⟨by decide, hs⟩ ?_
  clear hs
  rintro ⟨i, sn⟩ w ⟨hi, hs⟩
  dsimp only [] at hi hs ⊢
  rcases Nat.lt_or_ge i 4 with hlt | hge
  · refine zz ?_
    refine MC.sendField hs rfl rfl (by rw [bufV_length, List.length_range]; exact hlt) rfl rfl rfl fun w hs => ?_
    have e3 : bufV (List.range i) ++ [int ((i : Nat) : Int)] = bufV (List.range (i + 1)) := by rw [List.range_succ]; simp [bufV]
    rw [e3] at hs
    refine zz ?_
    exact MC.again (i + 1, sn + 1) zi ⟨hlt, hs⟩ (by show 4 - (i + 1) < 4 - i; omega)
  · obtain rfl : i = 4 := by omega
    refine zz ?_
    refine MC.ret rfl ?_
    refine ⟨q, rfl, cach_shut (q := q) (pd := pd) (x := ⟨bl, qc, 0, 0, 0, List.replicate 4 Frm.zero, List.range 4, sn, 0, []⟩) ⟨CaOk.new 4, (by decide : 0 < (List.replicate 4 Frm.zero).length), (by decide : (List.replicate 4 Frm.zero).length ≤ 64)⟩ ?_⟩
    exact (bods_nil (t := 5) hs).pickF 5 [1, 2, 3, 0, 4] rfl rfl
end Go.Proofs.YtkccjgllanpebaaGreatDoor
