/-
  Pages: Take, Put, Get, Drop | A root saved where the power may be cut: what may be found behind a loss | Pages: Mark, Back | Pages: New
-/
import Derived.Test.YtjlofdodiaklaaaGreatYar
import Derived.KernelRfl
set_option maxHeartbeats 1000000
set_option linter.unusedVariables false
set_option linter.unusedSimpArgs false
namespace Go.Proofs.YtjlofdodiaklaaaGreat
open Go Go.Sl Go.Tr
attribute [local irreducible] LooksAt

section
variable {F : List Assn} {z : Pw} {s : St} {mk : Option (Nat × St)} {w : World}
theorem mget_set {m : List (Int × Value)} {k : Int} {v : Value} : mget (mset m k v) k = some v := by
  induction m with
  | nil => simp [mset, mget]
  | cons x m ih =>
    obtain ⟨j, u⟩ := x
    unfold mset
    split
    · next h => simp [mget, h]
    · next h => simp [mget, h, ih]
theorem mget_set_ne {m : List (Int × Value)} {k j : Int} {v : Value} (h : j ≠ k) : mget (mset m k v) j = mget m j := by
  induction m with
  | nil => simp [mset, mget, Ne.symm h]
  | cons x m ih =>
    obtain ⟨i, u⟩ := x
    unfold mset
    split
    · next h' => subst h'; simp [mget, Ne.symm h]
    · next h' => simp [mget, ih]
theorem mget_del_ne {m : List (Int × Value)} {k j : Int} (h : j ≠ k) : mget (mdel m k) j = mget m j := by
  induction m with
  | nil => simp [mdel]
  | cons x m ih =>
    obtain ⟨i, u⟩ := x
    unfold mdel
    split
    · next h' => subst h'; simp [mget, Ne.symm h]
    · next h' => simp [mget, ih]
theorem kind_lt {E : En} {s : St} {k c : Nat} (h : s.kind E k = some c) : E.frm ≤ k ∧ ∃ h : k - E.frm < s.kinds.length, s.kinds[k - E.frm] = c := by
  unfold St.kind at h
  split at h
  · cases h
  · next hk => exact ⟨by omega, List.getElem?_eq_some_iff.1 h⟩
theorem kind_set {E : En} {s : St} {i c : Nat} {b : Nat → Bs} (hi : i < s.kinds.length) (k : Nat) : St.kind E ⟨s.kinds.set i c, b⟩ k = if k = E.frm + i then some c else s.kind E k := by
  unfold St.kind
  dsimp only []
  by_cases hk : k < E.frm
  · rw [if_pos hk, if_pos hk, if_neg (by omega)]
  · rw [if_neg hk, if_neg hk, List.getElem?_set]
    by_cases h2 : k = E.frm + i
    · rw [if_pos h2, if_pos (by omega), if_pos (by simpa using hi)]
    · rw [if_neg h2, if_neg (by omega)]
theorem kind_at {E : En} {s : St} {i : Nat} (hi : i < s.kinds.length) : s.kind E (E.frm + i) = some s.kinds[i] := by
  unfold St.kind
  rw [if_neg (by omega), Nat.add_sub_cancel_left, List.getElem?_eq_getElem hi]
theorem take_first {l : List Nat} {i : Nat} (h : l.findIdx? (· == 0) = some i) : ∃ hi : i < l.length, l[i] = 0 := by
  rw [List.findIdx?_eq_some_iff_getElem] at h
  obtain ⟨h1, h2, _⟩ := h
  exact ⟨h1, by simpa using h2⟩
theorem bufV_put {l : List Nat} {sp : List Value} {v : Value} {i : Nat} (c : Nat) (hi : i < l.length) (hv : v = int ((c : Nat) : Int)) : (bufV l ++ sp).set i v = bufV (l.set i c) ++ sp := by
  subst hv
  rw [List.set_append_left _ _ (by rw [bufV_length]; exact hi)]
  simp [bufV, List.map_set]
theorem Half.ok.put {x : Half} {E : En} {s : St} {pool : List (Value × Bs)} {H : Nat → Prop} {i : Nat} {v : Value} {b : Bs} (h : x.ok E s pool H) (hi : i < s.kinds.length) (hk : s.kinds[i] ≤ 1) (hb : b.length = 256) :
    Half.ok ⟨x.kb, x.kc, x.sp, x.mb, mset x.m ((E.frm + i : Nat) : Int) v⟩ E ⟨s.kinds.set i 1, upd s.by_ (E.frm + i) b⟩ (pool ++ [(v, b)]) H := by
  refine ⟨by simpa using h.pos, by simpa using h.few, by simpa using h.cap, by simpa using h.spl, fun c hc => ?_, fun k hk1 => ?_, fun k => ?_⟩
  · rcases List.mem_or_eq_of_mem_set hc with h' | h'
    · exact h.small c h'
    · omega
  · rw [kind_set hi] at hk1
    dsimp only [] at hk1 ⊢
    unfold upd
    by_cases hki : k = E.frm + i
    · rw [if_pos hki, hki]
      exact ⟨hb, v, mget_set, List.mem_append_right _ (List.mem_singleton.2 rfl)⟩
    · rw [if_neg hki] at hk1 ⊢
      obtain ⟨g1, u, g2, g3⟩ := h.has k hk1
      exact ⟨g1, u, by rw [mget_set_ne (by omega)]; exact g2, List.mem_append_left _ g3⟩
  · rw [kind_set hi, h.held k]
    by_cases hki : k = E.frm + i
    · rw [if_pos hki, hki, kind_at hi]
      simp; omega
    · rw [if_neg hki]
theorem Half.ok.kset {x : Half} {E : En} {s : St} {pool : List (Value × Bs)} {H : Nat → Prop} {i c : Nat} {m' : List (Int × Value)} (h : x.ok E s pool H) (hi : i < s.kinds.length) (hc : c = 0 ∧ s.kinds[i] = 1 ∨ c = 3 ∧ s.kinds[i] = 2) (hm : ∀ k : Nat, k ≠ E.frm + i → mget m' ((k : Nat) : Int) = mget x.m ((k : Nat) : Int)) :
    Half.ok ⟨x.kb, x.kc, x.sp, x.mb, m'⟩ E ⟨s.kinds.set i c, s.by_⟩ pool H := by
  refine ⟨by simpa using h.pos, by simpa using h.few, by simpa using h.cap, by simpa using h.spl, fun c' hc' => ?_, fun k hk1 => ?_, fun k => ?_⟩
  · rcases List.mem_or_eq_of_mem_set hc' with h' | h'
    · exact h.small c' h'
    · omega
  · rw [kind_set hi] at hk1
    dsimp only [] at hk1 ⊢
    by_cases hki : k = E.frm + i
    · rw [if_pos hki] at hk1
      have := Option.some.inj hk1
      omega
    · rw [if_neg hki] at hk1
      obtain ⟨g1, u, g2, g3⟩ := h.has k hk1
      exact ⟨g1, u, by rw [hm k hki]; exact g2, g3⟩
  · rw [kind_set hi, h.held k]
    by_cases hki : k = E.frm + i
    · rw [if_pos hki, hki, kind_at hi]
      simp; omega
    · rw [if_neg hki]
theorem rep_zeros : rep 256 [.int .u8 0] = bytesV zeros := by
  rw [rep_one]; unfold zeros bytesV; rw [List.map_replicate]; rfl
theorem zeros_len : zeros.length = 256 := List.length_replicate
theorem sl_zeros {b : Nat} {t : TypeId} {l : List Assn} {w : World} (hs : Sat (blk b (rep 256 [.int .u8 0]) t :: l) w) : Sat (sl (.slice (some ⟨b, 0, none⟩) 256 256) t 1 256 (bytesV zeros) :: l) w := by
  rw [rep_zeros] at hs
  exact Sat.sl_mk (xs := bytesV zeros) (spare := []) (n := 256) (c := 256) (size := 1) (by rw [List.append_nil]; exact hs) (Nat.le_refl _) (by rw [bytesV_length, zeros_len]) (by rw [bytesV_length, zeros_len]; rfl)
theorem take_spec (hs : Sat (pgr z s mk :: F) w) :
    Ret Tryz.prog 65 [ptr z.p] w (OutK (takeM z.E) z s mk F) := by
  obtain ⟨g, hg, hz, hs⟩ := pgr_open hs
  have hx := hg.x
  have hn := hx.few
  have hnone := pnone_spec (p := z.p) hs
  have hidx := index_spec (b := g.x.kb) hs rfl (by omega) hx.cap
  refine Ret.enter [(true, ptr z.p)] _ Tryz.func65 rfl Tryz.ntmps65 rfl ?_
  refine zz ?_
  refine MC.does true (does_call rfl (hnone)) rfl ?_
  rintro _ w ⟨rfl, rfl⟩
  refine zz ?_
  refine MC.does true (does_call rfl (hidx)) rfl ?_
  rintro _ w ⟨rfl, rfl⟩
  cases hf : s.kinds.findIdx? (· == 0) with
  | none =>
    dsimp only []
    refine zz ?_
    refine MC.ret rfl ?_
    exact .inr ⟨190, s, by decide, by unfold takeM; rw [hf]; exact ⟨rfl, rfl⟩, rfl, pgr_shut hg hz hs⟩
  | some i =>
    obtain ⟨hi, h0⟩ := take_first hf
    dsimp only []
    refine zz ?_
    refine MC.does true (does_store1 hs rfl rfl rfl (by rw [List.length_append, bufV_length]; omega)) rfl ?_; intro _ w hs
    rw [show 0 + ((i : Nat) : Int).toNat * 1 = i by rw [Int.toNat_natCast]; omega, bufV_put (v := .int .i64 1) 1 hi rfl] at hs
    refine zz ?_
    refine MC.draw hs [0, 1, 2, 3, 4, 5, 6, 7, 8, 9, 10, 11] (by rfl) ?_; intro w hs
    refine zd ?_
    refine MC.doesK true (does_makeSliceI 256 256 hs rfl rfl rfl rfl (Nat.le_refl _) (by omega) (by omega)) rfl rfl rfl ?_
    rintro _ w ⟨bb, rfl, hs⟩
    refine zh ?_
    have hs := sl_zeros hs
    refine zd ?_
    refine MC.doesK true (does_mapSet hs rfl rfl rfl) rfl rfl rfl ?_
    intro _ w hs
    refine zh ?_
    refine zd ?_
    refine zz ?_
    refine MC.ret rfl ?_
    have hput := hx.put (v := .slice (some ⟨bb, 0, none⟩) 256 256) (b := zeros) hi (by omega) zeros_len
    have hs := bods_add zeros_len (hs.pickF 5 [0, 4, 1, 2, 3] rfl rfl)
    refine .inl ⟨z.E.frm + i, _, by unfold takeM; rw [hf]; exact ⟨rfl, rfl⟩, by push_cast; rfl, ?_⟩
    exact pgr_shutL (hg.grow (fun y hy => List.mem_append_left _ hy) hput) hz List.length_set (hs.pickF 4 [1, 2, 3, 0] rfl rfl)
theorem kind_of {E : En} {s : St} (k : Nat) : (if k < E.frm then none else s.kinds[k - E.frm]?) = s.kind E k := rfl
theorem fresh_at {E : En} {s : St} {k c : Nat} (h : s.kind E k = some c) : ∃ (i : Nat) (hi : i < s.kinds.length), k = E.frm + i ∧ s.kinds[i] = c := by
  obtain ⟨h1, h2, h3⟩ := kind_lt h
  exact ⟨k - E.frm, h2, by omega, h3⟩
theorem kindI_ne {o : Option Nat} {c : Nat} (h : o ≠ some c) : kindI o ≠ ((c : Nat) : Int) := by
  cases o with
  | none => show (-1 : Int) ≠ _; omega
  | some d =>
    intro h'
    refine h (congrArg some ?_)
    have : ((d : Nat) : Int) = ((c : Nat) : Int) := h'
    omega
theorem pput_spec {vb : Value} {nb k : Nat} {b : Bs} (hs : Sat (pgr z s mk :: F) w) (hl : RdS F 1 vb nb (bytesV b)) (hk : k ≤ 100000) :
    Ret Tryz.prog 64 [ptr z.p, int ((k : Nat) : Int), vb] w (OutU (putM z.E k b) z s mk F) := by
  obtain ⟨g, hg, hz, hs⟩ := pgr_open hs
  have hx := hg.x
  have hn := hx.few
  have hnone := pnone_spec (p := z.p) hs
  have hki := kind_spec (p := z.p) (b := g.x.kb) (l := s.kinds) hs rfl hn k hk
  obtain ⟨q, c, rfl, hc, hlen⟩ := hl.shape
  obtain rfl : nb = b.length := by simpa using hlen.symm
  refine Ret.enter [(true, ptr z.p), (true, int ((k : Nat) : Int)), (true, .slice q b.length c)] _ Tryz.func64 rfl Tryz.ntmps64 rfl ?_
  refine zz ?_
  refine MC.does true (does_call rfl (hnone)) rfl ?_
  rintro _ w ⟨rfl, rfl⟩
  refine zz ?_
  refine MC.does true (does_call rfl (hki)) rfl ?_
  rintro _ w ⟨rfl, hs⟩
  rw [kind_of]
  by_cases h1 : s.kind z.E k = some 1
  · rw [h1]
    dsimp only [kindI]
    by_cases h2 : b.length = 256
    · refine zz ?_
      refine MC.draw hs [0, 1, 2, 3, 4, 5, 6, 7] (by rfl) ?_; intro w hs
      refine zd ?_
      refine MC.doesK true (does_call rfl (bclone_spec hs hl.up (by omega))) rfl rfl rfl ?_
      intro vn w hs
      refine zh ?_
      rw [h2] at hs
      refine zd ?_
      refine MC.doesK true (does_mapSet hs rfl rfl rfl) rfl rfl rfl ?_
      intro _ w hs
      refine zh ?_
      refine zd ?_
      refine zz ?_
      refine MC.ret rfl ?_
      obtain ⟨i, hi, rfl, hi1⟩ := fresh_at h1
      have hput := hx.put (v := vn) (b := b) hi (by omega) h2
      have hs := bods_add h2 (hs.pickF 5 [0, 4, 1, 2, 3] rfl rfl)
      have e : s.kinds.set i 1 = s.kinds := by rw [← hi1]; exact List.set_getElem_self hi
      rw [e] at hput
      refine .inl ⟨(), _, by unfold putM; rw [if_pos h1, if_pos h2]; exact ⟨rfl, rfl⟩, rfl, ?_⟩
      exact pgr_shutL (hg.grow (fun y hy => List.mem_append_left _ hy) hput) hz rfl (hs.pickF 4 [1, 2, 3, 0] rfl rfl)
    · refine zz ?_
      refine MC.ret rfl ?_
      exact .inr ⟨2, s, by decide, by unfold putM; rw [if_pos h1, if_neg h2]; exact ⟨rfl, rfl⟩, rfl, pgr_shut hg hz hs⟩
  · have h2 := kindI_ne h1
    refine zz ?_
    refine MC.ret rfl ?_
    exact .inr ⟨240, s, by decide, by unfold putM; rw [if_neg h1]; exact ⟨rfl, rfl⟩, rfl, pgr_shut hg hz hs⟩
def OutB (m : M Bs) (z : Pw) (s : St) (mk : Option (Nat × St)) (F : List Assn) : Value → World → Prop := Out m s (fun b s' v w => ∃ vb, v = .tuple #[vb, int 0] ∧ b.length = 256 ∧ Sat (sl vb 5 1 b.length (bytesV b) :: pgr z s' mk :: F) w) (fun e s' v w => ∃ vb, v = .tuple #[vb, int e] ∧ Sat (pgr z s' mk :: F) w)
theorem pget_spec {k : Nat} (hs : Sat (pgr z s mk :: F) w) (hk : k ≤ 100000) :
    Ret Tryz.prog 99 [ptr z.p, int ((k : Nat) : Int)] w (OutB (getM z.E k) z s mk F) := by
  obtain ⟨g, hg, hz, hs⟩ := pgr_open hs
  have hx := hg.x
  have hn := hx.few
  have hnone := pnone_spec (p := z.p) hs
  have hki := kind_spec (p := z.p) (b := g.x.kb) (l := s.kinds) hs rfl hn k hk
  refine Ret.enter [(true, ptr z.p), (true, int ((k : Nat) : Int))] _ Tryz.func99 rfl Tryz.ntmps99 rfl ?_
  refine zz ?_
  refine MC.does true (does_call rfl (hnone)) rfl ?_
  rintro _ w ⟨rfl, rfl⟩
  refine zz ?_
  refine MC.does true (does_call rfl (hki)) rfl ?_
  rintro _ w ⟨rfl, hs⟩
  rw [kind_of]
  by_cases h1 : s.kind z.E k = some 1
  · rw [h1]
    dsimp only [kindI]
    obtain ⟨g1, u, g2, g3⟩ := hx.has k h1
    refine zz ?_
    refine MC.pure (f := true) (po_bin rfl rfl (br_add rfl)) rfl ?_
    refine zz ?_
    refine MC.does true (does_store1 hs rfl rfl rfl (by first | decide | (simp; done) | (simp; omega))) rfl ?_; intro _ w hs
    refine zz ?_
    refine MC.la true (la_lookup hs rfl rfl g2) rfl ?_
    have hrd := bods_rd hs.tail.tail.tail g3
    dsimp only [] at hrd
    refine MC.does true (does_call rfl (bclone_spec hs hrd.up (by omega))) rfl ?_
    intro vn w hs
    refine zz ?_
    refine MC.ret rfl ?_
    refine .inl ⟨s.by_ k, s, ⟨rfl, by rw [if_pos h1]⟩, vn, rfl, g1, ?_⟩
    have hs := hs.pickF 8 [1, 2, 3, 4, 5, 6, 7, 0] rfl rfl
    exact (pgr_shutL (hg.grow (fun _ h => h) hx) hz rfl hs).swap
  · by_cases h2 : s.kind z.E k = some 2
    · rw [h2]
      dsimp only [kindI]
      obtain ⟨hk1, hk2, _⟩ := kind_lt h2
      have hH : z.H k := (hx.held k).2 (.inl h2)
      have hkd := hz.fits k hH
      have hs := hs.pickF 6 [4, 5, 0, 1, 2, 3] rfl rfl
      have hget := cget_spec (q := z.q) hs hz.dev hz.few hkd hH (hz.sec k hH)
      refine zz ?_
      refine MC.does true (does_call rfl (hget)) rfl ?_
      rintro _ w (⟨vb, rfl, hs⟩ | ⟨hf, vb, rfl, hs⟩)
      · refine zz ?_
        have hs := hs.pickF 2 [1, 0] rfl rfl
        have hlv := leave_spec (q := z.q) hs
        refine MC.does true (does_call rfl (hlv)) rfl ?_
        rintro _ w ⟨rfl, hs⟩
        refine zz ?_
        refine MC.pure (f := true) (po_bin rfl rfl (br_add rfl)) rfl ?_
        refine zz ?_
        refine MC.does true (does_store1 hs rfl rfl rfl (by first | decide | (simp; done) | (simp; omega))) rfl ?_; intro _ w hs
        refine zz ?_
        refine MC.ret rfl ?_
        have hsl : (z.E.sec k).length = 256 := by rw [← hz.sec k hH]; exact get_length hz.dev hkd
        refine .inl ⟨z.E.sec k, s, ⟨rfl, by rw [if_neg h1, if_pos h2]; exact .inl rfl⟩, vb, rfl, hsl, ?_⟩
        rw [hsl]
        have hs := hs.pickF 8 [3, 4, 5, 6, 0, 2, 7, 1] rfl rfl
        exact (pgr_shutL (hg.grow (fun _ h => h) hx) hz rfl hs).swap
      · refine zz ?_
        refine MC.ret rfl ?_
        refine .inr ⟨150, s, by decide, ⟨rfl, by rw [if_neg h1, if_pos h2]; exact .inr ⟨hz.down.2 hf, rfl⟩⟩, _, rfl, ?_⟩
        exact pgr_shut hg hz (hs.pickF 6 [2, 3, 4, 5, 0, 1] rfl rfl)
    · have h3 := kindI_ne h1
      have h4 := kindI_ne h2
      refine zz ?_
      refine MC.ret rfl ?_
      exact .inr ⟨240, s, by decide, ⟨rfl, by rw [if_neg h1, if_neg h2]⟩, _, rfl, pgr_shut hg hz hs⟩
theorem drop_spec {k : Nat} (hs : Sat (pgr z s mk :: F) w) (hk : k ≤ 100000) :
    Ret Tryz.prog 66 [ptr z.p, int ((k : Nat) : Int)] w (OutU (dropM z.E k) z s mk F) := by
  obtain ⟨g, hg, hz, hs⟩ := pgr_open hs
  have hx := hg.x
  have hn := hx.few
  have hnone := pnone_spec (p := z.p) hs
  have hki := kind_spec (p := z.p) (b := g.x.kb) (l := s.kinds) hs rfl hn k hk
  refine Ret.enter [(true, ptr z.p), (true, int ((k : Nat) : Int))] _ Tryz.func66 rfl Tryz.ntmps66 rfl ?_
  refine zz ?_
  refine MC.does true (does_call rfl (hnone)) rfl ?_
  rintro _ w ⟨rfl, rfl⟩
  refine zz ?_
  refine MC.does true (does_call rfl (hki)) rfl ?_
  rintro _ w ⟨rfl, hs⟩
  rw [kind_of]
  by_cases h1 : s.kind z.E k = some 1
  · rw [h1]
    dsimp only [kindI]
    obtain ⟨i, hi, rfl, hi1⟩ := fresh_at h1
    refine zz ?_
    refine MC.draw hs [0, 1, 2, 3, 4, 5, 6, 7, 8, 9, 10, 11] (by rfl) ?_; intro w hs
    refine zd ?_
    refine MC.doesK true (does_store1 hs rfl rfl rfl (by rw [List.length_append, bufV_length]; omega)) rfl rfl rfl ?_; intro _ w hs
    refine zh ?_
    rw [show 0 + (((z.E.frm + i : Nat) : Int) - ((z.E.frm : Nat) : Int)).toNat * 1 = i by omega, bufV_put (v := .int .i64 0) 0 hi rfl] at hs
    refine zd ?_
    refine zz ?_
    refine MC.does true (does_mapDel (t := 74) hs rfl rfl rfl) rfl ?_
    intro _ w hs
    refine zz ?_
    refine MC.ret rfl ?_
    have hk2 := hx.kset (m' := mdel g.x.m ((z.E.frm + i : Nat) : Int)) hi (.inl ⟨rfl, hi1⟩) fun k hk => mget_del_ne (by omega)
    refine .inl ⟨(), _, by unfold dropM; rw [if_pos h1]; exact ⟨rfl, rfl⟩, rfl, ?_⟩
    rw [Nat.add_sub_cancel_left]
    exact pgr_shutL (hg.grow (fun _ h => h) hk2) hz List.length_set hs
  · by_cases h2 : s.kind z.E k = some 2
    · rw [h2]
      dsimp only [kindI]
      obtain ⟨i, hi, rfl, hi1⟩ := fresh_at h2
      refine zz ?_
      refine MC.draw hs [0, 1, 2, 3, 4, 5, 6, 7, 8, 9, 10, 11] (by rfl) ?_; intro w hs
      refine zd ?_
      refine MC.doesK true (does_store1 hs rfl rfl rfl (by rw [List.length_append, bufV_length]; omega)) rfl rfl rfl ?_; intro _ w hs
      refine zh ?_
      rw [show 0 + (((z.E.frm + i : Nat) : Int) - ((z.E.frm : Nat) : Int)).toNat * 1 = i by omega, bufV_put (v := .int .i64 3) 3 hi rfl] at hs
      refine zd ?_
      refine zz ?_
      refine MC.ret rfl ?_
      have hk2 := hx.kset (m' := g.x.m) hi (.inr ⟨rfl, hi1⟩) fun k hk => rfl
      refine .inl ⟨(), _, by unfold dropM; rw [if_neg h1, if_pos h2]; exact ⟨rfl, rfl⟩, rfl, ?_⟩
      rw [Nat.add_sub_cancel_left]
      exact pgr_shutL (hg.grow (fun _ h => h) hk2) hz List.length_set hs
    · have h3 := kindI_ne h1
      have h4 := kindI_ne h2
      refine zz ?_
      refine MC.ret rfl ?_
      exact .inr ⟨240, s, by decide, by unfold dropM; rw [if_neg h1, if_neg h2]; exact ⟨rfl, rfl⟩, rfl, pgr_shut hg hz hs⟩
end
end Go.Proofs.YtjlofdodiaklaaaGreat

namespace Go.Proofs.YtjlofdodiaklaaaGreat
open Go Go.Sl
attribute [local irreducible] LooksAt

structure After (P : Nat → Prop) (S : List (List UInt8)) (L0 N : Sv) (D : Dev) : Prop where
  ok : D.ok
  few : D.O.length ≤ 1000
  lose : ∀ kept torn at', ((D.lose kept torn at').ok ∧ (D.lose kept torn at').S.length = 400 ∧ (D.lose kept torn at').O = [] ∧ (D.lose kept torn at').fuse = 0) ∧ (∀ k, P k → (D.lose kept torn at').get k = S.getD k []) ∧
    ∃ A B, readS 0 ((D.lose kept torn at').get (0 : Int).toNat) = A ∧ readS 1 ((D.lose kept torn at').get ((0 : Int) + 1).toNat) = B ∧ A.fields.length ≤ 40 ∧ B.fields.length ≤ 40 ∧ (latestOf A B = N ∨ latestOf A B = L0)
theorem After.mono {P Q : Nat → Prop} {S : List (List UInt8)} {L0 N : Sv} {D : Dev} (h : After P S L0 N D) (hq : ∀ k, Q k → P k) : After Q S L0 N D :=
  ⟨h.ok, h.few, fun a b c => ⟨(h.lose a b c).1, fun k hk => (h.lose a b c).2.1 k (hq k hk), (h.lose a b c).2.2⟩⟩
theorem after_still {D : Dev} {A B : Sv} (hC : Coh D A B) (N : Sv) : After (fun _ => True) D.S (latestOf A B) N D := by
  refine ⟨hC.ok, by rw [hC.noO]; exact Nat.zero_le _, fun kept torn at' => ?_⟩
  have hE : D.lose kept torn at' = ⟨D.S, [], 0, 0⟩ := by
    show (⟨lost D.S D.O kept torn at' D.O.length, [], 0, 0⟩ : Dev) = _
    rw [hC.noO]; rfl
  have hg : ∀ k, (⟨D.S, [], 0, 0⟩ : Dev).get k = D.get k := fun k => by rw [get_noO rfl, get_noO hC.noO]
  have ok := Dev.lose_ok hC.ok kept torn at'
  rw [hE] at ok ⊢
  refine ⟨⟨ok, hC.len, rfl, rfl⟩, fun k _ => get_noO rfl k, A, B, ?_, ?_, hC.okA.few, hC.okB.few, .inr rfl⟩
  · rw [hg]; exact hC.readA
  · rw [hg]; exact hC.readB
theorem save_top {F : List Assn} {r p : Nat} {A B : Sv} {D : Dev} {w : World} {vl : Value} {f : List Int} {epoch : Int} (hs : Sat (rt r p 0 A B :: dev p D :: F) w) (hC : Coh D A B)
    (hx : RdS F 1 vl f.length (intsV f)) (hf : f.length ≤ 40) (hfit : ∀ n ∈ f, 0 ≤ n ∧ n ≤ 2147483647) (he : (latestOf A B).epoch < epoch) (he0 : 1 ≤ epoch) (he1 : epoch ≤ 255) :
    Ret Tryz.prog 16 [ptr r, vl, int epoch] w fun v w' =>
      (v = int 150 ∧ ∃ D', After (fun k => 2 ≤ k) D.S (latestOf A B) ⟨true, epoch, f⟩ D' ∧ Sat (rt r p 0 A B :: dev p D' :: F) w') ∨
      (v = int 0 ∧ ∃ A' B' D', Coh D' A' B' ∧ latestOf A' B' = ⟨true, epoch, f⟩ ∧ (∀ k, 2 ≤ k → D'.S.getD k [] = D.S.getD k []) ∧ D'.fuse = burnt (burnt D.fuse) ∧ Sat (rt r p 0 A' B' :: dev p D' :: F) w') := by
  have hfa := hC.okA.few
  have hfb := hC.okB.few
  have hlen := hC.len
  have hN : (⟨true, epoch, f⟩ : Sv).ok := ⟨hf, hfit, fun _ => he0, by show epoch ≤ 2147483647; omega, fun h => by cases h⟩
  have hk := otherOf_cases A B
  have hsec := sectorB_length (which := otherOf A B) (epoch := epoch) hf
  have hkl : ((0 : Int) + otherOf A B).toNat < D.S.length := by omega
  have hset : ∀ (x : List UInt8) (k : Nat), 2 ≤ k → (D.S.set ((0 : Int) + otherOf A B).toNat x).getD k [] = D.S.getD k [] := fun x k h => by
    rw [List.getD_eq_getElem?_getD, List.getElem?_set_ne (by omega), ← List.getD_eq_getElem?_getD]
  refine (save_spec hs hC.ok (by rw [hC.noO]; decide) hx hf hfit he (by omega) (by omega) (by decide) (by show (0 : Int) + 2 ≤ (D.S.length : Int); omega) (by omega) (by omega)).mono ?_
  intro v w' h
  by_cases h0 : D.fuse = 1
  · rw [if_pos h0] at h
    exact .inl ⟨h.1, D, (after_still hC _).mono fun _ _ => trivial, h.2⟩
  · rw [if_neg h0] at h
    by_cases h1 : burnt D.fuse = 1
    · rw [if_pos h1] at h
      refine .inl ⟨h.1, _, ⟨Dev.write_ok hC.ok hkl hsec, by show (D.O ++ [_]).length ≤ 1000; rw [hC.noO]; simp, fun kept torn at' => ?_⟩, h.2⟩
      obtain ⟨mm, hmm, hE⟩ := lose_one (D := D) (l := sectorB (otherOf A B) epoch f) (k := ((0 : Int) + otherOf A B).toNat) hC.noO hkl kept torn at'
      have hle := epochs_le hC.okA hC.okB (n := epoch - 1) (by omega) (by omega)
      obtain ⟨E, hE2, A', B', g1, g2, g3, g4, g5, g6, g7, g8, g9⟩ := torn_pair hC hN rfl he1 (by constructor <;> (show _ < epoch; omega)) he hmm
      have hE3 : (D.write ((0 : Int) + otherOf A B).toNat (sectorB (otherOf A B) epoch f)).lose kept torn at' = E := by rw [hE, hE2]
      rw [hE3]
      refine ⟨⟨g3, g4, g5, g6⟩, fun k hk2 => ?_, A', B', g1, g2, g7, g8, g9⟩
      rw [get_noO g5, hE2]
      exact hset _ k hk2
    · rw [if_neg h1] at h
      obtain ⟨rfl, h⟩ := h
      have hC' := hC.save hN rfl
      have hL := latest_put hC.okA hC.okB ⟨true, epoch, f⟩ rfl he (by show 0 < epoch; omega)
      refine .inr ⟨rfl, _, _, _, hC', hL, fun k hk2 => ?_, rfl, h⟩
      have hS : ((D.write ((0 : Int) + otherOf A B).toNat (sectorB (otherOf A B) epoch f)).sync).S = D.S.set ((0 : Int) + otherOf A B).toNat (sectorB (otherOf A B) epoch f) := by
        show laid D.S (D.O ++ [_]) = _
        rw [hC.noO]; rfl
      rw [hS]
      exact hset _ k hk2
end Go.Proofs.YtjlofdodiaklaaaGreat

namespace Go.Proofs.YtjlofdodiaklaaaGreat
open Go Go.Sl Go.Tr
attribute [local irreducible] LooksAt

instance extMaps : Ext Tryz.prog 83 Extern.MapsClone.clone :=
  ⟨fun args w => run_callFunc_extern Tryz.func83 (by kernel_rfl) (by kernel_rfl) (by kernel_rfl) (by kernel_rfl) args w⟩
theorem mclone_spec {F : List Assn} {G : Assn → List Assn} {q : Nat} {m : List (Int × Value)} {w : World} (hs : Sat F w) [hA : AtM F q m G] :
    Ret Tryz.prog 58 [.map (some q)] w fun v w' => ∃ q', v = .map (some q') ∧ Sat (mp q' m :: F) w' := by
  refine Ret.enter [(true, .map (some q))] _ Tryz.func58 rfl Tryz.ntmps58 rfl ?_
  refine zz ?_
  refine MC.pure (f := true) (po_bin rfl rfl br_map_nil) rfl ?_
  refine zz ?_
  refine MC.pure (f := true) (po_makeIfaceM rfl) rfl ?_
  obtain ⟨q', w1, h1, hs1⟩ := run_mapsClone (P := Tryz.prog) (q := q) hs 74
  refine MC.does true (does_ext rfl (Post := fun v w' => v = .iface 74 (.map (some q')) ∧ Sat (mp q' m :: F) w') ⟨_, _, h1, rfl, hs1⟩) rfl ?_
  rintro _ w ⟨rfl, hs⟩
  refine MC.pure (f := true) (po_assertMap rfl) rfl ?_
  refine zz ?_
  refine MC.ret rfl ?_
  exact ⟨q', rfl, hs⟩
theorem ints_blk {F : List Assn} {t : TypeId} {v : Value} {l : List Nat} {n : Nat} {w : World} (hs : Sat (sl v t 1 n (bufV l) :: F) w) (h0 : 0 < n) : ∃ b c sp, v = .slice (some ⟨b, 0, none⟩) n c ∧ n ≤ c ∧ l.length + sp.length = c ∧ Sat (blk b (bufV l ++ sp) t :: F) w := by
  rcases hs.sl_cases with h | h
  · omega
  · obtain ⟨b, c, sp, rfl, h1, h2, h3, hs⟩ := h
    exact ⟨b, c, sp, rfl, h1, by rw [bufV_length] at h3; omega, hs⟩
section
variable {F : List Assn} {z : Pw} {s : St} {mk : Option (Nat × St)} {w : World}
theorem br_ptr_self {P : Program} {t e : TypeId} {agg : Bool} {size bytes : Nat} {zero : List Value} [h : TyU P t (.pointer e)] [hI : TyI P e agg size bytes zero] {b o : Nat} : Bin P .neq t (.pointer (some ⟨b, o, none⟩)) (.pointer (some ⟨b, o, none⟩)) (.bool false) := fun _ _ w => by
  have h : (Op.equal t (.pointer (some ⟨b, o, none⟩)) (.pointer (some ⟨b, o, none⟩))).run P w = .ok true w := by
    unfold Op.equal Op.maxDepth Op.equalIn
    rw [Sem.run_bind, TyU.run (t := t) w]
    simp [TyI.run_size (P := P) (t := e) w, sameAddr]
  simp [eqGuard, binOp, h]
theorem mark_spec (hs : Sat (pgr z s none :: F) w) :
    Ret Tryz.prog 28 [ptr z.p] w fun v w' => ∃ m, v = ptr m ∧ Sat (pgr z s (some (m, s)) :: F) w' := by
  obtain ⟨g, hg, hz, hs⟩ := pgr_open hs
  have hx := hg.x
  have hn := hx.few
  have hnone := pnone_spec (p := z.p) hs
  refine Ret.enter [(true, ptr z.p)] _ Tryz.func28 rfl Tryz.ntmps28 rfl ?_
  refine zz ?_
  refine MC.does true (does_call rfl (hnone)) rfl ?_
  rintro _ w ⟨rfl, rfl⟩
  refine zz ?_
  refine MC.draw hs [0, 1, 2, 3, 4, 5, 6, 7, 8, 10, 11, 12, 13, 9, 14, 15, 16, 17] (by rfl) ?_; intro w hs
  refine zd ?_
  refine MC.doesK true (does_call rfl (iclone_spec (b := g.x.kb) hs rfl (by omega) hx.cap)) rfl rfl rfl ?_
  intro va w hs
  refine zh ?_
  obtain ⟨kb, kc, sp, rfl, hc1, hc2, hs⟩ := ints_blk hs hx.pos
  refine zd ?_
  refine MC.doesK true (does_call rfl (mclone_spec (q := g.x.mb) hs)) rfl rfl rfl ?_
  rintro _ w ⟨mb, rfl, hs⟩
  refine zh ?_
  refine zd ?_
  refine MC.pure (f := true) (po_build (ls := [(0, [ptr z.p]), (1, [int g.round]), (2, [.slice (some ⟨kb, 0, none⟩) s.kinds.length kc]), (3, [.map (some mb)])]) (out := [ptr z.p, int g.round, .slice (some ⟨kb, 0, none⟩) s.kinds.length kc, .map (some mb)]) rfl rfl ⟨⟨_, rfl, by simp⟩, ⟨_, rfl, by simp⟩, ⟨_, rfl, by simp⟩, ⟨_, rfl, by simp⟩, trivial⟩ rfl) rfl ?_
  refine MC.doesK true (does_box hs rfl rfl) rfl rfl rfl ?_
  rintro _ w ⟨m, rfl, hs⟩
  refine zh ?_
  refine zd ?_
  refine MC.ret rfl ?_
  have hs := hs.pickF 10 [0, 2, 1, 3, 4, 5, 6, 7, 8, 9] rfl rfl
  have hs := (Sat.restar (l := [_, _, _]) hs).pickF 8 [7, 1, 2, 3, 4, 5, 6, 0] rfl rfl
  have hs := hs.tail
  have hy : (⟨kb, kc, sp, mb, g.x.m⟩ : Half).ok z.E s g.pool z.H := ⟨hx.pos, hx.few, hc1, hc2, hx.small, hx.has, hx.held⟩
  exact ⟨m, rfl, pgr_shut (g := ⟨g.x, ⟨kb, kc, sp, mb, g.x.m⟩, g.round, g.touched, g.pool⟩) ⟨hx, hy⟩ hz hs⟩
theorem back_spec {m : Nat} {s0 : St} (hs : Sat (pgr z s (some (m, s0)) :: F) w) :
    Ret Tryz.prog 61 [ptr z.p, ptr m] w fun v w' => v = int 0 ∧ Sat (pgr z s0 (some (m, s0)) :: F) w' := by
  obtain ⟨g, hg, hz, hs⟩ := pgr_open hs
  have hx := hg.x
  have hn := hx.few
  have hnone := pnone_spec (p := z.p) hs
  refine Ret.enter [(true, ptr z.p), (true, ptr m)] _ Tryz.func61 rfl Tryz.ntmps61 rfl ?_
  refine zz ?_
  refine MC.does true (does_call rfl (hnone)) rfl ?_
  rintro _ w ⟨rfl, rfl⟩
  refine zz ?_
  obtain ⟨hx, hy⟩ := hg
  dsimp only [] at hy
  have hn2 := hy.few
  have hs := (hs.pickF 7 [6, 0, 1, 2, 3, 4, 5] rfl rfl)
  have hs := Sat.unstar (l := [_, _, _]) hs
  dsimp only [List.cons_append, List.nil_append] at hs
  refine MC.draw hs [0, 1, 2, 3, 4, 5, 6, 7, 8, 9, 10, 11, 12, 13, 14, 15, 16, 17] (by rfl) ?_; intro w hs
  refine zd ?_
  refine MC.pure (f := true) (po_bin rfl rfl br_ptr_self) rfl ?_
  refine zd ?_
  refine zz ?_
  refine MC.draw hs [0, 1, 2, 3, 4, 5, 7, 8, 9, 10, 6, 11, 12, 13, 14, 15, 16, 17] (by rfl) ?_; intro w hs
  refine zd ?_
  refine MC.doesK true (does_call rfl (iclone_spec (b := g.y.kb) hs rfl (by omega) hy.cap)) rfl rfl rfl ?_
  intro va w hs
  refine zh ?_
  obtain ⟨kb, kc, sp, rfl, hc1, hc2, hs⟩ := ints_blk hs hy.pos
  refine zd ?_
  refine MC.doesK true (does_call rfl (mclone_spec (q := g.y.mb) hs)) rfl rfl rfl ?_
  rintro _ w ⟨mb, rfl, hs⟩
  refine zh ?_
  refine zd ?_
  refine MC.doesK true (does_store1 hs rfl rfl rfl (by first | decide | (simp; done) | (simp; omega))) rfl rfl rfl ?_; intro _ w hs; refine zh ?_
  refine zd ?_
  refine MC.doesK true (does_store1 hs rfl rfl rfl (by first | decide | (simp; done) | (simp; omega))) rfl rfl rfl ?_; intro _ w hs; refine zh ?_
  refine zd ?_
  refine zz ?_
  refine MC.ret rfl ?_
  have hs := hs.pickF 11 [2, 3, 4, 5, 1, 0, 8, 9, 10, 6, 7] rfl rfl
  have hs := ((Sat.restar (l := [_, _, _]) hs).pickF 9 [7, 8, 1, 2, 3, 4, 5, 6, 0] rfl rfl).tail.tail
  have hx2 : (⟨kb, kc, sp, mb, g.y.m⟩ : Half).ok z.E s0 g.pool z.H := ⟨hy.pos, hy.few, hc1, hc2, hy.small, hy.has, hy.held⟩
  exact ⟨rfl, pgr_shutL (mk := some (m, s0)) (y := g.y) (r := g.round) (t := g.touched) (pool := g.pool) ⟨hx2, hy⟩ hz rfl hs⟩
end
end Go.Proofs.YtjlofdodiaklaaaGreat

namespace Go.Proofs.YtjlofdodiaklaaaGreat
open Go Go.Sl Go.Tr
attribute [local irreducible] LooksAt

section
variable {F : List Assn} {z : Pw} {s : St} {mk : Option (Nat × St)} {w : World}
def liveK (live : List Nat) : List Nat := (List.range 398).map fun i => if 2 + i ∈ live then 2 else 0
theorem liveK_len (live : List Nat) : (liveK live).length = 398 := by simp [liveK]
theorem liveK_at (live : List Nat) {i : Nat} (h : i < 398) : (liveK live)[i]? = some (if 2 + i ∈ live then 2 else 0) := by
  simp [liveK, h]
theorem liveK_nil : liveK [] = List.replicate 398 0 := by
  apply List.ext_getElem?
  intro i
  rcases Nat.lt_or_ge i 398 with h | h
  · rw [liveK_at _ h, List.getElem?_replicate, if_pos h]; simp
  · rw [List.getElem?_eq_none (by rw [liveK_len]; exact h), List.getElem?_eq_none (by rw [List.length_replicate]; exact h)]
theorem liveK_snoc {live : List Nat} {i : Nat} (h : i < 398) : (liveK live).set i 2 = liveK (live ++ [2 + i]) := by
  apply List.ext_getElem?
  intro j
  rcases Nat.lt_or_ge j 398 with hj | hj
  · rw [liveK_at _ hj, List.getElem?_set, liveK_len]
    by_cases hij : i = j
    · subst hij; rw [if_pos rfl, if_pos h, if_pos (by simp)]
    · rw [if_neg hij, liveK_at _ hj]
      have : 2 + j ∈ live ++ [2 + i] ↔ 2 + j ∈ live := by simp; omega
      by_cases h2 : 2 + j ∈ live
      · rw [if_pos h2, if_pos (this.2 h2)]
      · rw [if_neg h2, if_neg (fun h => h2 (this.1 h))]
  · rw [List.getElem?_eq_none (by rw [List.length_set, liveK_len]; exact hj), List.getElem?_eq_none (by rw [liveK_len]; exact hj)]
theorem rep_kinds : rep 398 [int 0] = bufV (liveK []) ++ [] := by
  rw [rep_one, liveK_nil, List.append_nil]; unfold bufV; rw [List.map_replicate]; rfl
theorem pnew_spec {q pd n : Nat} {D : Dev} {sec : Nat → Bs} {vl : Value} {live : List Nat} (hs : Sat (cach q pd sec (fun _ => False) none :: dev pd D :: F) w) (hD : D.ok) (hO : D.O.length ≤ 100000) (h400 : D.S.length = 400)
    (hl : RdS F 1 vl live.length (bufV live)) (hin : ∀ k ∈ live, 2 ≤ k ∧ k < 400) (hnd : live.Nodup) (hn : live.length ≤ 1000) :
    Ret Tryz.prog 6 [ptr pd, ptr q, int 2, int 398, vl] w fun v w' => ∃ p, v = .tuple #[ptr p, int 0] ∧
      ∀ b, Sat (pgr ⟨p, q, pd, D, ⟨fun k => D.get k, decide (D.fuse = 1), 2⟩, fun k => k ∈ live⟩ ⟨liveK live, b⟩ none :: F) w' := by
  have hsz := size_spec (hs.pull 1 rfl)
  have hhe := held_spec hs
  obtain ⟨lp, lc, rfl, hlc, hll⟩ := hl.shape
  refine Ret.enter [(true, ptr pd), (true, ptr q), (true, int 2), (true, int 398), (true, .slice lp live.length lc)] _ Tryz.func6 rfl Tryz.ntmps6 rfl ?_
  refine zz ?_
  refine MC.does true (does_call rfl (hsz)) rfl ?_
  rintro _ w ⟨rfl, rfl⟩
  refine zz ?_
  refine MC.does true (does_call rfl (hhe)) rfl ?_
  rintro _ w ⟨a, n, c, rfl, hn0, hs⟩
  refine zz ?_
  refine MC.does true (does_makeSliceI 398 398 hs rfl rfl rfl rfl (Nat.le_refl _) (by omega) (by omega)) rfl ?_
  rintro _ w ⟨kb, rfl, hs⟩
  rw [rep_kinds] at hs
  refine zz ?_
  refine MC.does true (does_makeMap hs) rfl ?_
  rintro _ w ⟨mb, rfl, hs⟩
  refine MC.pure (f := true) (po_build (ls := [(0, [ptr pd]), (1, [ptr q]), (2, [int 2]), (3, [.slice (some ⟨kb, 0, none⟩) 398 398]), (4, [.map (some mb)])]) (out := [ptr pd, ptr q, int 2, .slice (some ⟨kb, 0, none⟩) 398 398, .map (some mb), int 0, int 0]) rfl rfl ⟨⟨_, rfl, by simp⟩, ⟨_, rfl, by simp⟩, ⟨_, rfl, by simp⟩, ⟨_, rfl, by simp⟩, ⟨_, rfl, by simp⟩, trivial⟩ rfl) rfl ?_
  refine MC.does true (does_box hs rfl rfl) rfl ?_
  rintro _ w ⟨p, rfl, hs⟩
  refine zz ?_
  have hs := hs.pickF 3 [0, 2, 1] rfl rfl
  refine MC.loop (σ := Nat) (fun i => [(2, true, int 2), (13, true, ptr p), (54, true, .slice lp live.length lc), (55, true, int ((live.length : Nat) : Int)), (56, true, int ((i : Nat) : Int))])
    (fun i w => i ≤ live.length ∧ Sat (pblk p pd q 2 (.slice (some ⟨kb, 0, none⟩) 398 398) mb 0 0 :: blk kb (bufV (liveK (live.take i)) ++ []) 3 :: mp mb [] :: cach q pd sec (fun _ => False) none :: dev pd D :: F) w) (fun i => live.length - i) 0 (by repeat (first | exact trivial | refine ⟨rfl, ?_⟩)) ⟨Nat.zero_le _, hs⟩ ?_
  clear hs
  rintro i w ⟨hi, hs⟩
  dsimp only [] at hi hs ⊢
  rcases Nat.lt_or_ge i live.length with hlt | hge
  · obtain ⟨lb, lo, rfl, hrl⟩ := hl.at_ (by omega)
    have hyat : (bufV live)[((i : Nat) : Int).toNat * 1]? = some (int ((live[i] : Nat) : Int)) := by
      rw [Int.toNat_natCast, Nat.mul_one]; simp [bufV, hlt]
    obtain ⟨hk2, hk4⟩ := hin live[i] (List.getElem_mem hlt)
    obtain ⟨j, hj⟩ : ∃ j, live[i] = 2 + j := ⟨live[i] - 2, by omega⟩
    have hnot : 2 + j ∉ live.take i := by
      intro hm
      obtain ⟨i2, hi2, he⟩ := List.mem_iff_getElem.1 hm
      rw [List.length_take] at hi2
      rw [List.getElem_take, ← hj] at he
      exact List.pairwise_iff_getElem.1 hnd i2 i (by omega) hlt (by omega) he
    have hki := kind_spec (p := p) (b := kb) (l := liveK (live.take i)) (n := 398) hs (liveK_len _) (by omega) live[i] (by omega)
    refine zz ?_
    refine MC.la true (la_load1_rd hrl hs (j := ((i : Nat) : Int).toNat * 1) rfl hyat) rfl ?_
    refine zz ?_
    refine MC.does true (does_call rfl (hki)) rfl ?_
    rintro _ w ⟨rfl, hs⟩
    rw [if_neg (by omega), show live[i] - 2 = j by omega, liveK_at _ (by omega), if_neg hnot]
    dsimp only [kindI]
    refine zz ?_
    refine MC.does true (does_store1 hs rfl rfl rfl (by rw [List.length_append, bufV_length, liveK_len]; omega)) rfl ?_; intro _ w hs
    rw [show 0 + (((live[i] : Nat) : Int) - 2).toNat * 1 = j by omega, bufV_put (v := .int .i64 2) 2 (by rw [liveK_len]; omega) rfl, liveK_snoc (by omega), ← hj, ← List.take_succ_eq_append_getElem hlt] at hs
    refine zz ?_
    exact MC.again (i + 1) (by repeat (first | exact trivial | refine ⟨rfl, ?_⟩)) ⟨hlt, hs⟩ (by omega)
  · obtain rfl : i = live.length := by omega
    refine zz ?_
    refine MC.ret rfl ?_
    refine ⟨p, rfl, fun b => ?_⟩
    rw [List.take_length] at hs
    have hs := bods_nil (t := 5) (hs.pickF 5 [3, 4, 0, 1, 2] rfl rfl)
    have hs := (cach_less (sec' := fun k => D.get k) (H' := fun k => k ∈ live) (fun k h => h.elim) (hs.pickF 3 [1, 0, 2] rfl rfl))
    have hs := devr_shut (D := D) (rd := D.reads) (hs.pickF 3 [2, 0, 1] rfl rfl)
    have hs := Sat.restar (l := []) hs
    have hx : (⟨kb, 398, [], mb, []⟩ : Half).ok ⟨fun k => D.get k, decide (D.fuse = 1), 2⟩ ⟨liveK live, b⟩ [] (fun k => k ∈ live) := by
      have hkd : ∀ k, St.kind ⟨fun k => D.get k, decide (D.fuse = 1), 2⟩ ⟨liveK live, b⟩ k = if 2 ≤ k ∧ k < 400 then some (if k ∈ live then 2 else 0) else none := fun k => by
        unfold St.kind
        dsimp only []
        by_cases h1 : k < 2
        · rw [if_pos h1, if_neg (by omega)]
        · rw [if_neg h1]
          by_cases h2 : k < 400
          · rw [liveK_at _ (by omega), if_pos (show 2 ≤ k ∧ k < 400 from ⟨by omega, h2⟩), show 2 + (k - 2) = k by omega]
          · rw [if_neg (by omega), List.getElem?_eq_none (by rw [liveK_len]; omega)]
      refine ⟨by rw [liveK_len]; decide, by rw [liveK_len]; show 2 + 398 ≤ 100000; decide, by rw [liveK_len]; exact Nat.le_refl _, by rw [liveK_len]; rfl, fun c hc => ?_, fun k hk => ?_, fun k => ?_⟩
      · obtain ⟨i, _, rfl⟩ := List.mem_map.1 hc
        split <;> omega
      · rw [hkd] at hk
        split at hk
        · have := Option.some.inj hk
          split at this <;> omega
        · cases hk
      · rw [hkd]
        constructor
        · intro h
          rw [if_pos (hin k h), if_pos h]; exact .inl rfl
        · intro h
          by_cases h2 : 2 ≤ k ∧ k < 400
          · rw [if_pos h2] at h
            by_cases h3 : k ∈ live
            · exact h3
            · rw [if_neg h3] at h; rcases h with h | h <;> cases h
          · rw [if_neg h2] at h; rcases h with h | h <;> cases h
    refine pgr_shutL (z := ⟨p, q, pd, D, ⟨fun k => D.get k, decide (D.fuse = 1), 2⟩, fun k => k ∈ live⟩) (s := ⟨liveK live, b⟩) (mk := none) (y := ⟨0, 0, [], 0, []⟩) (r := 0) (t := 0) (pool := []) ⟨hx, trivial⟩ ⟨hD, hO, fun k hk => by rw [h400]; exact (hin k hk).2, fun k _ => rfl, by simp⟩ (liveK_len _) ?_
    exact hs.pickF 7 [4, 5, 6, 3, 2, 1, 0] rfl rfl
end
end Go.Proofs.YtjlofdodiaklaaaGreat
