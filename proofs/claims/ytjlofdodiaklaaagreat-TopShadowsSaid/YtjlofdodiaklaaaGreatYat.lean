/-
  Pages: Flush, Done | A flush that is cut, a flush that came through | Chains: Pages, taken | Chains: Put
-/
import Derived.Test.YtjlofdodiaklaaaGreatYas
import Derived.Test.YtjlofdodiaklaaaGreatYam
set_option maxHeartbeats 1000000
set_option linter.unusedVariables false
set_option linter.unusedSimpArgs false
namespace Go.Proofs.YtjlofdodiaklaaaGreat
open Go Go.Sl Go.Tr
attribute [local irreducible] LooksAt

def flD (E : En) (s : St) (D : Dev) : Nat → Dev
  | 0 => D
  | n + 1 => if s.kind E (E.frm + n) = some 1 then (flD E s D n).write (E.frm + n) (s.by_ (E.frm + n)) else flD E s D n
section
variable {E : En} {s : St} {D : Dev}
theorem flD_S : ∀ n, (flD E s D n).S = D.S
  | 0 => rfl
  | n + 1 => by
    unfold flD; split
    · exact flD_S n
    · exact flD_S n
theorem flD_O : ∀ n, (flD E s D n).O.length ≤ D.O.length + n
  | 0 => Nat.le_refl _
  | n + 1 => by
    have := flD_O n
    unfold flD; split
    · show ((flD E s D n).O ++ [_]).length ≤ _
      rw [List.length_append, List.length_singleton]; omega
    · omega
theorem flD_ok (hD : D.ok) (hb : ∀ k, s.kind E k = some 1 → (s.by_ k).length = 256) : ∀ n, E.frm + n ≤ D.S.length → (flD E s D n).ok
  | 0, _ => hD
  | n + 1, h => by
    have ih := flD_ok hD hb n (by omega)
    unfold flD; split
    · next hk => exact Dev.write_ok ih (by rw [flD_S]; omega) (hb _ hk)
    · exact ih
end
section
variable {F : List Assn} {z : Pw} {s : St} {mk : Option (Nat × St)} {w : World}
theorem flush_spec (hs : Sat (pgr z s mk :: F) w) (hfit : z.E.frm + s.kinds.length ≤ z.D.S.length) (hO : z.D.O.length ≤ 1000) :
    Ret Tryz.prog 15 [ptr z.p] w fun v w' =>
      (∃ e n, e ≠ 0 ∧ n ≤ s.kinds.length ∧ v = int e ∧ Sat (devr z.pd (flD z.E s z.D n) :: F) w') ∨
      (v = int 0 ∧ ∃ g : Pg, g.ok z.E z.H s mk ∧ Sat (pblk z.p z.pd z.q z.E.frm (g.x.kv s) g.x.mb g.round g.touched :: g.x.kA s :: mp g.x.mb g.x.m :: bods 5 g.pool :: cach z.q z.pd z.E.sec z.H none :: devr z.pd (flD z.E s z.D s.kinds.length).sync :: mkA z.p g.round mk g.y :: F) w') := by
  obtain ⟨g, hg, hz, hs⟩ := pgr_open hs
  have hx := hg.x
  have hn := hx.few
  have hnone := pnone_spec (p := z.p) hs
  have hSl := hz.dev.few
  refine Ret.enter [(true, ptr z.p)] _ Tryz.func15 rfl Tryz.ntmps15 rfl ?_
  refine zz ?_
  refine MC.does true (does_call rfl (hnone)) rfl ?_
  rintro _ w ⟨rfl, rfl⟩
  refine zz ?_
  refine MC.loop (σ := Nat) (fun i => [(0, true, ptr z.p), (11, true, g.x.kv s), (12, true, int ((s.kinds.length : Nat) : Int)), (13, true, int ((i : Nat) : Int))])
    (fun i w => i ≤ s.kinds.length ∧ Sat (pblk z.p z.pd z.q z.E.frm (g.x.kv s) g.x.mb g.round g.touched :: g.x.kA s :: mp g.x.mb g.x.m :: bods 5 g.pool :: cach z.q z.pd z.E.sec z.H none :: devr z.pd (flD z.E s z.D i) :: mkA z.p g.round mk g.y :: F) w) (fun i => s.kinds.length - i) 0 (by repeat (first | exact trivial | refine ⟨rfl, ?_⟩)) ⟨Nat.zero_le _, hs⟩ ?_
  clear hs
  rintro i w ⟨hi, hs⟩
  dsimp only [] at hi hs ⊢
  have hok := flD_ok (E := z.E) (s := s) hz.dev (fun k hk => (hx.has k hk).1) i (by omega)
  have hOi := flD_O (E := z.E) (s := s) (D := z.D) i
  rcases Nat.lt_or_ge i s.kinds.length with hlt | hge
  · have h0 : (bufV s.kinds ++ g.x.sp)[0 + ((i : Nat) : Int).toNat * 1]? = some (int ((s.kinds[i] : Nat) : Int)) := by
      rw [Nat.zero_add, Nat.mul_one, Int.toNat_natCast, List.getElem?_append_left (by rw [bufV_length]; omega)]
      simp [bufV, hlt]
    have hki := kind_at (E := z.E) hlt
    refine zz ?_
    refine MC.la true (la_load1 hs rfl h0) rfl ?_
    refine zz ?_
    by_cases h1 : s.kinds[i] = 1
    · rw [h1] at hki
      obtain ⟨g1, u, g2, g3⟩ := hx.has _ hki
      push_cast at g2
      refine zz ?_
      obtain ⟨rd, hs⟩ := devr_open (hs.pickF 6 [5, 0, 1, 2, 3, 4] rfl rfl)
      refine MC.draw hs [0, 1, 2, 3, 4, 5, 6, 7, 8, 9, 10, 11, 12, 13, 14, 15, 16, 17, 18, 19, 20, 21, 22] (by rfl) ?_; intro w hs
      refine zd ?_
      refine MC.laD true (la_lookup hs rfl rfl g2) rfl ?_
      have hrd := bods_rd hs.tail.tail.tail.tail g3
      dsimp only [] at hrd
      have hwr := write_spec (k := ((z.E.frm + i : Nat) : Int)) hs { hok with } hrd.up (by show (flD z.E s z.D i).O.length ≤ 100000; omega)
      push_cast at hwr
      refine zd ?_
      refine MC.doesK true (does_call rfl (hwr)) rfl rfl rfl ?_
      rintro _ w ⟨rfl, hs⟩
      refine zh ?_
      refine zd ?_
      have ek : (((z.E.frm : Nat) : Int) + ((i : Nat) : Int)).toNat = z.E.frm + i := by omega
      rw [ek] at hs
      by_cases hw : Dev.wrong { flD z.E s z.D i with reads := rd } (((z.E.frm : Nat) : Int) + ((i : Nat) : Int)) ((s.by_ (z.E.frm + i)).length : Int) = 0
      · rw [if_pos hw] at hs
        rw [hw]
        refine zz ?_
        refine MC.again (i + 1) (by repeat (first | exact trivial | refine ⟨rfl, ?_⟩)) ⟨hlt, ?_⟩ (by omega)
        have e : flD z.E s z.D (i + 1) = (flD z.E s z.D i).write (z.E.frm + i) (s.by_ (z.E.frm + i)) := by rw [flD, if_pos hki]
        rw [e]
        exact (devr_shut (D := (flD z.E s z.D i).write (z.E.frm + i) (s.by_ (z.E.frm + i))) (rd := rd) hs).pickF 6 [1, 2, 3, 4, 5, 0] rfl rfl
      · rw [if_neg hw] at hs
        refine zz ?_
        refine MC.ret rfl ?_
        have hs := devr_shut (D := flD z.E s z.D i) (rd := rd) hs
        exact .inl ⟨_, i, hw, hi, rfl, (hs.pickF 7 [1, 2, 3, 4, 5, 6, 0] rfl rfl).tail.tail.tail.tail.tail.tail⟩
    · refine zz ?_
      refine MC.again (i + 1) (by repeat (first | exact trivial | refine ⟨rfl, ?_⟩)) ⟨hlt, ?_⟩ (by omega)
      have e : flD z.E s z.D (i + 1) = flD z.E s z.D i := by rw [flD, if_neg (by rw [hki]; simpa using h1)]
      rw [e]; exact hs
  · obtain rfl : i = s.kinds.length := by omega
    obtain ⟨rd, hs⟩ := devr_open (hs.pickF 6 [5, 0, 1, 2, 3, 4] rfl rfl)
    have hsy := sync_spec hs { hok with } (by show (flD z.E s z.D _).O.length ≤ 100000; omega)
    refine zz ?_
    refine MC.does true (does_call rfl (hsy)) rfl ?_
    rintro _ w ⟨rfl, hs⟩
    refine zz ?_
    refine MC.ret rfl ?_
    by_cases hw : Dev.wrong { flD z.E s z.D s.kinds.length with reads := rd } 0 256 = 0
    · rw [if_pos hw] at hs
      have hs := devr_shut (D := (flD z.E s z.D s.kinds.length).sync) (rd := rd) hs
      exact .inr ⟨by rw [hw]; rfl, g, hg, hs.pickF 6 [1, 2, 3, 4, 5, 0] rfl rfl⟩
    · rw [if_neg hw] at hs
      have hs := devr_shut (D := flD z.E s z.D s.kinds.length) (rd := rd) hs
      exact .inl ⟨_, s.kinds.length, hw, hi, rfl, (hs.pickF 7 [1, 2, 3, 4, 5, 6, 0] rfl rfl).tail.tail.tail.tail.tail.tail⟩
def dn (c : Nat) : Nat := if c = 3 then 0 else if c = 1 then 2 else c
def mixK (l : List Nat) (i : Nat) : List Nat := (l.take i).map dn ++ l.drop i
theorem mixK_len (l : List Nat) (i : Nat) : (mixK l i).length = l.length := by
  unfold mixK; rw [List.length_append, List.length_map, List.length_take, List.length_drop]; omega
theorem mixK_zero (l : List Nat) : mixK l 0 = l := by simp [mixK]
theorem mixK_all (l : List Nat) : mixK l l.length = l.map dn := by simp [mixK]
theorem mixK_at {l : List Nat} {i : Nat} (h : i < l.length) : (mixK l i)[i]? = some l[i] := by
  unfold mixK
  rw [List.getElem?_append_right (by simp; omega), List.length_map, List.length_take, Nat.min_eq_left (by omega), Nat.sub_self, List.getElem?_drop, Nat.add_zero, List.getElem?_eq_getElem h]
theorem mixK_set {l : List Nat} {i c : Nat} (h : i < l.length) (hc : dn l[i] = c) : (mixK l i).set i c = mixK l (i + 1) := by
  subst hc
  unfold mixK
  rw [List.set_append_right _ _ (by simp; omega), List.length_map, List.length_take, Nat.min_eq_left (by omega), Nat.sub_self, List.drop_eq_getElem_cons h, List.set_cons_zero, List.take_succ_eq_append_getElem h, List.map_append]
  simp
theorem mixK_keep {l : List Nat} {i : Nat} (h : i < l.length) (hc : dn l[i] = l[i]) : mixK l (i + 1) = mixK l i := by
  rw [← mixK_set h hc]
  apply List.ext_getElem?
  intro j
  rw [List.getElem?_set]
  by_cases hij : i = j
  · subst hij; rw [if_pos rfl, if_pos (by rw [mixK_len]; exact h), mixK_at h]
  · rw [if_neg hij]
theorem done_spec (hs : Sat (pgr z s none :: F) w) (hfr : ∀ k, s.kind z.E k = some 1 → k < z.D.S.length) :
    Ret Tryz.prog 18 [ptr z.p] w fun v w' => v = int 0 ∧
      ∀ b, Sat (pgr { z with E := ⟨fun k => z.D.get k, z.E.down, z.E.frm⟩, H := fun k => (⟨s.kinds.map dn, b⟩ : St).kind z.E k = some 2 } ⟨s.kinds.map dn, b⟩ none :: F) w' := by
  obtain ⟨g, hg, hz, hs⟩ := pgr_open hs
  have hx := hg.x
  have hn := hx.few
  have hnone := pnone_spec (p := z.p) hs
  refine Ret.enter [(true, ptr z.p)] _ Tryz.func18 rfl Tryz.ntmps18 rfl ?_
  refine zz ?_
  refine MC.does true (does_call rfl (hnone)) rfl ?_
  rintro _ w ⟨rfl, rfl⟩
  refine zz ?_
  have hs := hs.pickF 6 [0, 1, 2, 3, 4, 5] rfl rfl
  refine MC.loop (σ := Nat) (fun i => [(0, true, ptr z.p), (10, true, g.x.kv s), (11, true, int ((s.kinds.length : Nat) : Int)), (12, true, int ((i : Nat) : Int))])
    (fun i w => i ≤ s.kinds.length ∧ ∃ H, (∀ k, H k → z.H k ∧ ∀ j, j < i → k = z.E.frm + j → s.kinds[j]? ≠ some 3) ∧ Sat (pblk z.p z.pd z.q z.E.frm (g.x.kv s) g.x.mb g.round g.touched :: blk g.x.kb (bufV (mixK s.kinds i) ++ g.x.sp) 3 :: mp g.x.mb g.x.m :: bods 5 g.pool :: cach z.q z.pd z.E.sec H none :: devr z.pd z.D :: mkA z.p g.round none g.y :: F) w) (fun i => s.kinds.length - i) 0 (by repeat (first | exact trivial | refine ⟨rfl, ?_⟩)) ⟨Nat.zero_le _, z.H, fun k h => ⟨h, fun j hj => by omega⟩, by rw [mixK_zero]; exact hs⟩ ?_
  clear hs
  rintro i w ⟨hi, H, hH, hs⟩
  dsimp only [] at hi hs ⊢
  rcases Nat.lt_or_ge i s.kinds.length with hlt | hge
  · have h0 : (bufV (mixK s.kinds i) ++ g.x.sp)[0 + ((i : Nat) : Int).toNat * 1]? = some (int ((s.kinds[i] : Nat) : Int)) := by
      rw [Nat.zero_add, Nat.mul_one, Int.toNat_natCast, List.getElem?_append_left (by rw [bufV_length, mixK_len]; omega)]
      simp [bufV, mixK_at hlt]
    have hki := kind_at (E := z.E) hlt
    have hml : i < (mixK s.kinds i).length := by rw [mixK_len]; exact hlt
    refine zz ?_
    refine MC.la true (la_load1 hs rfl h0) rfl ?_
    by_cases h3 : s.kinds[i] = 3
    · rw [h3]
      refine zz ?_
      refine MC.does true (does_store1 hs rfl rfl rfl (by rw [List.length_append, bufV_length]; omega)) rfl ?_; intro _ w hs
      rw [show 0 + ((i : Nat) : Int).toNat * 1 = i by rw [Int.toNat_natCast]; omega, bufV_put (v := .int .i64 0) 0 hml rfl, mixK_set hlt (by rw [h3]; rfl)] at hs
      refine zz ?_
      have hs := hs.pickF 5 [4, 0, 1, 2, 3] rfl rfl
      refine MC.draw hs [0, 1, 2, 3, 4, 5, 6, 7, 8, 9, 10] (by rfl) ?_; intro w hs
      refine zd ?_
      have hfo := forget_spec (q := z.q) (k := z.E.frm + i) hs
      push_cast at hfo
      refine MC.doesK true (does_call rfl (hfo)) rfl rfl rfl ?_
      intro v w hs
      refine zh ?_
      refine zd ?_
      refine zz ?_
      refine MC.again (i + 1) (by repeat (first | exact trivial | refine ⟨rfl, ?_⟩)) ⟨hlt, _, ?_, hs.pickF 5 [1, 2, 3, 4, 0] rfl rfl⟩ (by omega)
      rintro k ⟨hk1, hk2⟩
      refine ⟨(hH k hk1).1, fun j hj hkj => ?_⟩
      rcases Nat.lt_or_ge j i with h | h
      · exact (hH k hk1).2 j h hkj
      · obtain rfl : j = i := by omega
        exact absurd hkj hk2
    · have hH' : ∀ k, H k → z.H k ∧ ∀ j, j < i + 1 → k = z.E.frm + j → s.kinds[j]? ≠ some 3 := fun k hk => ⟨(hH k hk).1, fun j hj hkj => by
        rcases Nat.lt_or_ge j i with h | h
        · exact (hH k hk).2 j h hkj
        · obtain rfl : j = i := by omega
          rw [List.getElem?_eq_getElem hlt]
          exact fun h => h3 (Option.some.inj h)⟩
      by_cases h1 : s.kinds[i] = 1
      · rw [h1]
        refine zz ?_
        refine MC.does true (does_store1 hs rfl rfl rfl (by rw [List.length_append, bufV_length]; omega)) rfl ?_; intro _ w hs
        rw [show 0 + ((i : Nat) : Int).toNat * 1 = i by rw [Int.toNat_natCast]; omega, bufV_put (v := .int .i64 2) 2 hml rfl, mixK_set hlt (by rw [h1]; rfl)] at hs
        refine zz ?_
        exact MC.again (i + 1) (by repeat (first | exact trivial | refine ⟨rfl, ?_⟩)) ⟨hlt, H, hH', hs⟩ (by omega)
      · refine zz ?_
        exact MC.again (i + 1) (by repeat (first | exact trivial | refine ⟨rfl, ?_⟩)) ⟨hlt, H, hH', by rw [mixK_keep hlt (by unfold dn; rw [if_neg h3, if_neg h1])]; exact hs⟩ (by omega)
  · obtain rfl : i = s.kinds.length := by omega
    refine zz ?_
    refine MC.does true (does_mapClear (t := 74) hs rfl rfl) rfl ?_
    intro _ w hs
    refine zz ?_
    refine MC.pure (f := true) (po_bin rfl rfl (br_add rfl)) rfl ?_
    refine zz ?_
    refine MC.does true (does_store1 hs rfl rfl rfl (by first | decide | (simp; done) | (simp; omega))) rfl ?_; intro _ w hs
    refine zz ?_
    refine MC.ret rfl ?_
    refine ⟨rfl, fun b => ?_⟩
    rw [mixK_all] at hs
    have hkm : ∀ k, St.kind z.E ⟨s.kinds.map dn, b⟩ k = (s.kind z.E k).map dn := fun k => by
      unfold St.kind; dsimp only []; split
      · rfl
      · rw [List.getElem?_map]
    have hdn : ∀ c, dn c ≠ 1 ∧ dn c ≠ 3 ∧ (c ≤ 3 → dn c ≤ 3) ∧ (c = 2 → dn c = 2) ∧ (dn c = 2 → c = 1 ∨ c = 2) := fun c => by
      unfold dn; split
      · omega
      · split <;> omega
    have hH2 : ∀ k, H k → (St.kind z.E ⟨s.kinds.map dn, b⟩ k = some 2) ∧ z.E.sec k = z.D.get k := fun k hk => by
      obtain ⟨h1, h2⟩ := hH k hk
      refine ⟨?_, (hz.sec k h1).symm⟩
      rw [hkm]
      rcases (hx.held k).1 h1 with h | h
      · rw [h]; rfl
      · obtain ⟨i, hi3, rfl, h4⟩ := fresh_at h
        exact absurd (by rw [List.getElem?_eq_getElem hi3, h4]) (h2 i hi3 rfl)
    have hs := cach_less (sec' := fun k => z.D.get k) (H' := fun k => St.kind z.E ⟨s.kinds.map dn, b⟩ k = some 2) hH2 (hs.pickF 5 [4, 0, 1, 2, 3] rfl rfl)
    have hx2 : (⟨g.x.kb, g.x.kc, g.x.sp, g.x.mb, []⟩ : Half).ok ⟨fun k => z.D.get k, z.E.down, z.E.frm⟩ ⟨s.kinds.map dn, b⟩ g.pool (fun k => St.kind z.E ⟨s.kinds.map dn, b⟩ k = some 2) := by
      refine ⟨by rw [List.length_map]; exact hx.pos, by rw [List.length_map]; exact hx.few, by rw [List.length_map]; exact hx.cap, by rw [List.length_map]; exact hx.spl, fun c hc => ?_, fun k hk => ?_, fun k => ?_⟩
      · obtain ⟨c', hc', rfl⟩ := List.mem_map.1 hc
        exact (hdn c').2.2.1 (hx.small c' hc')
      · have hk : St.kind z.E ⟨s.kinds.map dn, b⟩ k = some 1 := hk
        rw [hkm] at hk
        obtain ⟨c, _, hc⟩ := Option.map_eq_some_iff.1 hk
        exact absurd hc (hdn c).1
      · refine ⟨.inl, fun h => h.elim id fun h => ?_⟩
        have h : St.kind z.E ⟨s.kinds.map dn, b⟩ k = some 3 := h
        rw [hkm] at h
        obtain ⟨c, _, hc⟩ := Option.map_eq_some_iff.1 h
        exact absurd hc (hdn c).2.1
    refine pgr_shutL (mk := none) (y := g.y) (t := g.touched) (pool := g.pool) ⟨hx2, trivial⟩ ⟨hz.dev, hz.few, fun k hk => ?_, fun k _ => rfl, hz.down⟩ (List.length_map _) (hs.pickF 5 [1, 2, 3, 4, 0] rfl rfl)
    have hk : St.kind z.E ⟨s.kinds.map dn, b⟩ k = some 2 := hk
    rw [hkm] at hk
    obtain ⟨c, h1, hc⟩ := Option.map_eq_some_iff.1 hk
    rcases (hdn c).2.2.2.2 hc with rfl | rfl
    · exact hfr k h1
    · exact hz.fits k ((hx.held k).2 (.inl h1))
end
end Go.Proofs.YtjlofdodiaklaaaGreat

namespace Go.Proofs.YtjlofdodiaklaaaGreat
open Go Go.Sl Go.Tr
attribute [local irreducible] LooksAt

theorem lost_other {S : List (List UInt8)} {O : List (Nat × List UInt8)} {kept : List Bool} {torn at' : Int} {k : Nat} (h : ∀ x ∈ O, x.1 ≠ k) : ∀ i, i ≤ O.length → (lost S O kept torn at' i).getD k [] = S.getD k []
  | 0, _ => rfl
  | i + 1, hi => by
    have hm : O.getD i (0, []) ∈ O := by
      rw [List.getD_eq_getElem?_getD, List.getElem?_eq_getElem (by omega)]
      exact List.getElem_mem _
    have hne := h _ hm
    simp only [lost]
    rw [List.getD_eq_getElem?_getD, List.getElem?_set_ne hne, ← List.getD_eq_getElem?_getD]
    exact lost_other h i (by omega)
section
variable {E : En} {s : St} {D : Dev} {A B N : Sv}
theorem flD_mem : ∀ n, ∀ x ∈ (flD E s D n).O, x ∈ D.O ∨ (s.kind E x.1 = some 1)
  | 0, x, h => .inl h
  | n + 1, x, h => by
    unfold flD at h
    split at h
    · next hk =>
      have h : x ∈ (flD E s D n).O ++ [(E.frm + n, s.by_ (E.frm + n))] := h
      rcases List.mem_append.1 h with h | h
      · exact flD_mem n x h
      · rw [List.mem_singleton.1 h]; exact .inr hk
    · exact flD_mem n x h
theorem after_flush (hC : Coh D A B) (hf : 2 ≤ E.frm) (hb : ∀ k, s.kind E k = some 1 → (s.by_ k).length = 256) {n : Nat} (hn : E.frm + n ≤ D.S.length) (hn2 : n ≤ 1000) : After (fun k => s.kind E k ≠ some 1) D.S (latestOf A B) N (flD E s D n) := by
  have hok := flD_ok (n := n) hC.ok hb hn
  have hlow : ∀ k, k < 2 → s.kind E k ≠ some 1 := fun k hk => by
    unfold St.kind
    rw [if_pos (by omega)]
    exact fun h => by cases h
  refine ⟨hok, by have := flD_O (E := E) (s := s) (D := D) n; rw [hC.noO] at this; simp at this; omega, fun kept torn at' => ?_⟩
  have hg : ∀ k, s.kind E k ≠ some 1 → ((flD E s D n).lose kept torn at').get k = D.S.getD k [] := fun k hk => by
    rw [get_noO rfl]
    show (lost (flD E s D n).S (flD E s D n).O kept torn at' (flD E s D n).O.length).getD k [] = _
    rw [lost_other (fun x hx => by
      rcases flD_mem n x hx with h | h
      · rw [hC.noO] at h; cases h
      · exact fun e => hk (by rw [← e]; exact h)) _ (Nat.le_refl _), flD_S]
  refine ⟨⟨Dev.lose_ok hok kept torn at', ?_, rfl, rfl⟩, hg, A, B, ?_, ?_, hC.okA.few, hC.okB.few, .inr rfl⟩
  · show (lost _ _ _ _ _ _).length = 400
    rw [lost_length, flD_S]; exact hC.len
  · rw [hg _ (hlow _ (by decide)), ← get_noO hC.noO]; exact hC.readA
  · rw [hg _ (hlow _ (by decide)), ← get_noO hC.noO]; exact hC.readB
theorem laid_flD (hO : D.O = []) : ∀ n, E.frm + n ≤ D.S.length → ∀ k, (laid D.S (flD E s D n).O).getD k [] = if s.kind E k = some 1 ∧ k < E.frm + n ∧ E.frm ≤ k then s.by_ k else D.S.getD k []
  | 0, _, k => by
    rw [if_neg (by omega)]
    show (laid D.S D.O).getD k [] = _
    rw [hO]; rfl
  | n + 1, h, k => by
    have ih := laid_flD hO n (by omega) k
    unfold flD
    split
    · next hk =>
      show (laid D.S ((flD E s D n).O ++ [(E.frm + n, s.by_ (E.frm + n))])).getD k [] = _
      rw [laid_append]
      show ((laid D.S (flD E s D n).O).set (E.frm + n) (s.by_ (E.frm + n))).getD k [] = _
      by_cases e : k = E.frm + n
      · subst e
        rw [if_pos ⟨hk, by omega, by omega⟩, List.getD_eq_getElem?_getD, List.getElem?_set_self (by rw [laid_length]; omega)]; rfl
      · rw [List.getD_eq_getElem?_getD, List.getElem?_set_ne (by omega), ← List.getD_eq_getElem?_getD, ih]
        by_cases e2 : s.kind E k = some 1 ∧ k < E.frm + n ∧ E.frm ≤ k
        · rw [if_pos e2, if_pos ⟨e2.1, by omega, e2.2.2⟩]
        · rw [if_neg e2, if_neg (fun h => e2 ⟨h.1, by omega, h.2.2⟩)]
    · next hk =>
      rw [ih]
      by_cases e : k = E.frm + n
      · subst e
        rw [if_neg (fun h => hk h.1), if_neg (fun h => hk h.1)]
      · by_cases e2 : s.kind E k = some 1 ∧ k < E.frm + n ∧ E.frm ≤ k
        · rw [if_pos e2, if_pos ⟨e2.1, by omega, e2.2.2⟩]
        · rw [if_neg e2, if_neg (fun h => e2 ⟨h.1, by omega, h.2.2⟩)]
theorem kind_in {k c : Nat} (h : s.kind E k = some c) : E.frm ≤ k ∧ k < E.frm + s.kinds.length := by
  unfold St.kind at h
  split at h
  · cases h
  · obtain ⟨h1, _⟩ := List.getElem?_eq_some_iff.1 h
    omega
theorem coh_flush (hC : Coh D A B) (hf : 2 ≤ E.frm) (hb : ∀ k, s.kind E k = some 1 → (s.by_ k).length = 256) (hn : E.frm + s.kinds.length ≤ D.S.length) :
    Coh (flD E s D s.kinds.length).sync A B ∧ ∀ k, (flD E s D s.kinds.length).sync.S.getD k [] = if s.kind E k = some 1 then s.by_ k else D.S.getD k [] := by
  have hok := flD_ok (n := s.kinds.length) hC.ok hb hn
  have hg : ∀ k, (flD E s D s.kinds.length).sync.S.getD k [] = if s.kind E k = some 1 then s.by_ k else D.S.getD k [] := fun k => by
    show (laid (flD E s D s.kinds.length).S (flD E s D s.kinds.length).O).getD k [] = _
    rw [flD_S, laid_flD hC.noO _ hn]
    by_cases e : s.kind E k = some 1
    · have := kind_in e
      rw [if_pos ⟨e, this.2, this.1⟩, if_pos e]
    · rw [if_neg (fun h => e h.1), if_neg e]
  have hlow : ∀ k, k < 2 → s.kind E k ≠ some 1 := fun k hk h => by have := kind_in h; omega
  refine ⟨⟨Dev.sync_ok hok, ?_, rfl, ?_, ?_, hC.okA, hC.okB⟩, hg⟩
  · show (laid (flD E s D s.kinds.length).S (flD E s D s.kinds.length).O).length = 400
    rw [laid_length, flD_S]; exact hC.len
  · rw [hg, if_neg (hlow 0 (by decide))]; exact hC.a
  · rw [hg, if_neg (hlow 1 (by decide))]; exact hC.b
end
end Go.Proofs.YtjlofdodiaklaaaGreat

namespace Go.Proofs.YtjlofdodiaklaaaGreat
open Go Go.Sl Go.Tr
attribute [local irreducible] LooksAt

theorem br_quo_m1 {P : Program} {t : TypeId} : Bin P .quo t (.int .i64 (-1)) (.int .i64 254) (.int .i64 0) := fun _ _ w => by
  simp [eqGuard, binOp, Op.intDiv, IntKind.wrap, IntKind.signed, IntKind.bits]
theorem pagesOf_pos (n : Nat) : 1 ≤ pagesOf n := by unfold pagesOf; omega
theorem pages_spec {n : Nat} {w : World} (hn : n ≤ 1000000) : Ret Tryz.prog 85 [int ((n : Nat) : Int)] w fun v w' => v = int ((pagesOf n : Nat) : Int) ∧ w' = w := by
  rcases Nat.eq_zero_or_pos n with rfl | h0
  · refine Ret.enter [(true, int 0)] _ Tryz.func85 rfl Tryz.ntmps85 rfl ?_
    refine zz ?_
    repeat first | refine MC.run1 tab 1 rfl rfl (by first | exact True.intro | omega) ?_ | refine zl (za hs rfl) ?_ | refine zq rfl rfl ?_ | refine zp rfl rfl ?_ | refine zf rfl ?_ | refine zt rfl ?_
    refine MC.pure (f := true) (po_bin rfl rfl (br_sub (r := -1) rfl)) rfl ?_
    refine MC.pure (f := true) (po_bin rfl rfl br_quo_m1) rfl ?_
    refine zz ?_
    refine MC.ret rfl ?_
    exact ⟨rfl, rfl⟩
  · refine Ret.enter [(true, int ((n : Nat) : Int))] _ Tryz.func85 rfl Tryz.ntmps85 rfl ?_
    refine zz ?_
    refine MC.ret rfl ?_
    refine ⟨?_, rfl⟩
    have e : (max 1 ((((n : Nat) : Int) - 1) / 254 + 1)) = ((pagesOf n : Nat) : Int) := by unfold pagesOf; omega
    rw [e]; rfl
theorem dropsM_snoc {E : En} {k : Nat} {s1 s2 : St} : ∀ {l : List Nat} {s : St}, dropsM E l s (.ok ()) s1 → dropM E k s1 (.ok ()) s2 → dropsM E (l ++ [k]) s (.ok ()) s2
  | [], s, h, h2 => by
    obtain ⟨_, rfl⟩ := h
    exact .inr ⟨(), s2, h2, rfl, rfl⟩
  | x :: l, s, h, h2 => by
    rcases h with ⟨e, _, he⟩ | ⟨a, s3, h3, h4⟩
    · cases he
    · exact .inr ⟨a, s3, h3, dropsM_snoc h4 h2⟩
theorem drop_fresh {E : En} {s s' : St} {k : Nat} {r : Res Unit} (h : s.kind E k = some 1) (hd : dropM E k s r s') : r = .ok () ∧ ∀ j, j ≠ k → s'.kind E j = s.kind E j := by
  unfold dropM at hd
  rw [if_pos h] at hd
  obtain ⟨h1, rfl⟩ := hd
  refine ⟨h1, fun j hj => ?_⟩
  obtain ⟨i, hi, rfl, _⟩ := fresh_at h
  rw [Nat.add_sub_cancel_left, kind_set hi, if_neg hj]
section
variable {F : List Assn} {z : Pw} {s : St} {mk : Option (Nat × St)} {w : World}
theorem dropAll_spec {be bl bp : Nat} {vl : Value} {l : List Nat} {e : Int} (hs : Sat (blk be [int e] 25 :: blk bl [vl] 56 :: blk bp [ptr z.p] 31 :: sl vl 3 1 l.length (bufV l) :: pgr z s mk :: F) w)
    (hl : ∀ k ∈ l, k ≤ 100000 ∧ s.kind z.E k = some 1) (hnd : l.Nodup) (hn : l.length ≤ 100000) :
    RetD Tryz.prog 103 [ptr be, ptr bl, ptr bp] w fun w' =>
      if e = 0 then Sat (blk be [int e] 25 :: blk bl [vl] 56 :: blk bp [ptr z.p] 31 :: sl vl 3 1 l.length (bufV l) :: pgr z s mk :: F) w'
      else ∃ s', dropsM z.E l s (.ok ()) s' ∧ Sat (blk be [int e] 25 :: blk bl [.slice none 0 0] 56 :: blk bp [ptr z.p] 31 :: pgr z s' mk :: F) w' := by
  refine RetD.enter [(true, ptr be), (true, ptr bl), (true, ptr bp)] _ Tryz.func103 rfl Tryz.ntmps103 rfl ?_
  obtain ⟨_, q, c, rfl, hc⟩ := (hs.tail.tail.tail).sl_len
  by_cases he : e = 0
  · refine zz ?_
    refine MC.end_ rfl ?_
    show if e = 0 then _ else _
    rw [if_pos he]
    exact hs
  · refine zz ?_
    refine MC.loop (σ := Nat × St) (fun x => [(0, true, ptr be), (1, true, ptr bl), (2, true, ptr bp), (7, true, .slice q l.length c), (8, true, int ((l.length : Nat) : Int)), (9, true, int ((x.1 : Nat) : Int))])
      (fun x w => x.1 ≤ l.length ∧ dropsM z.E (l.take x.1) s (.ok ()) x.2 ∧ (∀ k ∈ l.drop x.1, x.2.kind z.E k = some 1) ∧ Sat (blk be [int e] 25 :: blk bl [.slice q l.length c] 56 :: blk bp [ptr z.p] 31 :: sl (.slice q l.length c) 3 1 l.length (bufV l) :: pgr z x.2 mk :: F) w) (fun x => l.length - x.1) (0, s) (by repeat (first | exact trivial | refine ⟨rfl, ?_⟩)) ⟨Nat.zero_le _, ⟨rfl, rfl⟩, fun k hk => (hl k hk).2, hs⟩ ?_
    clear hs
    rintro ⟨i, s1⟩ w ⟨hi, hd, hk1, hs⟩
    dsimp only [] at hi hd hk1 hs ⊢
    rcases Nat.lt_or_ge i l.length with hlt | hge
    · have hr0 := RdS.of_sl hs.tail.tail.tail
      obtain ⟨lb, lo, rfl, hrl⟩ := hr0.at_ (by omega)
      have hyat : (bufV l)[((i : Nat) : Int).toNat * 1]? = some (int ((l[i] : Nat) : Int)) := by
        rw [Int.toNat_natCast, Nat.mul_one]; simp [bufV, hlt]
      have hdr := drop_spec (k := l[i]) (hs.pickF 5 [4, 0, 1, 2, 3] rfl rfl) (hl _ (List.getElem_mem hlt)).1
      have hf := hk1 l[i] (by rw [List.drop_eq_getElem_cons hlt]; exact List.mem_cons_self)
      refine zz ?_
      refine MC.la true (la_load1_rd hrl hs (j := ((i : Nat) : Int).toNat * 1) rfl hyat) rfl ?_
      refine zz ?_
      refine MC.does true (does_call rfl (hdr)) rfl ?_
      have hdone : ∀ r s2, dropM z.E l[i] s1 r s2 → r = .ok () ∧ dropsM z.E (l.take (i + 1)) s (.ok ()) s2 ∧ ∀ k ∈ l.drop (i + 1), s2.kind z.E k = some 1 := fun r s2 h => by
        obtain ⟨rfl, h2⟩ := drop_fresh hf h
        refine ⟨rfl, by rw [List.take_succ_eq_append_getElem hlt]; exact dropsM_snoc hd h, fun k hk => ?_⟩
        have hne : k ≠ l[i] := by
          obtain ⟨j, hj, rfl⟩ := List.mem_iff_getElem.1 hk
          rw [List.getElem_drop]
          rw [List.length_drop] at hj
          exact fun h => List.pairwise_iff_getElem.1 hnd i (i + 1 + j) hlt (by omega) (by omega) h.symm
        rw [h2 k hne]
        exact hk1 k (by rw [List.drop_eq_getElem_cons hlt]; exact List.mem_cons_of_mem _ hk)
      rintro _ w (⟨_, s2, hm, rfl, hs⟩ | ⟨e', s2, _, hm, rfl, hs⟩)
      · obtain ⟨_, h1, h2⟩ := hdone _ _ hm
        refine zz ?_
        exact MC.again (i + 1, s2) (by repeat (first | exact trivial | refine ⟨rfl, ?_⟩)) ⟨hlt, h1, h2, hs.pickF 5 [1, 2, 3, 4, 0] rfl rfl⟩ (by show l.length - (i + 1) < l.length - i; omega)
      · cases (hdone _ _ hm).1
    · obtain rfl : i = l.length := by omega
      rw [List.take_length] at hd
      refine zz ?_
      refine MC.does true (does_store1 hs rfl rfl rfl (by first | decide | (simp; done) | (simp; omega))) rfl ?_; intro _ w hs
      refine zz ?_
      refine MC.end_ rfl ?_
      show if e = 0 then _ else _
      rw [if_neg he]
      exact ⟨s1, hd, (hs.pickF 4 [3, 0, 1, 2] rfl rfl).tail⟩
theorem takeM_ok {E : En} {s s' : St} {k : Nat} (h : takeM E s (.ok k) s') : ∃ i, ∃ hi : i < s.kinds.length, s.kinds.findIdx? (· == 0) = some i ∧ k = E.frm + i ∧ s.kinds[i] = 0 ∧ s' = ⟨s.kinds.set i 1, upd s.by_ (E.frm + i) zeros⟩ := by
  unfold takeM at h
  split at h
  · cases h.1
  · next i hi =>
    obtain ⟨h1, h2⟩ := take_first hi
    obtain ⟨h3, h4⟩ := h
    cases h3
    exact ⟨i, h1, hi, rfl, h2, h4⟩
theorem takeM_err {E : En} {s s' : St} {e : Int} (h : takeM E s (.err e) s') : s.kinds.findIdx? (· == 0) = none ∧ e = 190 ∧ s' = s := by
  unfold takeM at h
  split at h
  · next hi => obtain ⟨h3, h4⟩ := h; cases h3; exact ⟨hi, rfl, h4⟩
  · cases h.1
def takenP (z : Pw) (s : St) (mk : Option (Nat × St)) (n : Nat) (F : List Assn) (v : Value) (w' : World) : Prop :=
  (∃ l s' vl, takenM z.E n [] s (.ok l) s' ∧ l.length = n ∧ l.Nodup ∧ (∀ k ∈ l, k ≤ 100000 ∧ s'.kind z.E k = some 1) ∧ v = .tuple #[vl, int 0] ∧ Sat (sl vl 3 1 l.length (bufV l) :: pgr z s' mk :: F) w') ∨
  (∃ s', takenM z.E n [] s (.err 190) s' ∧ v = .tuple #[.slice none 0 0, int 190] ∧ Sat (pgr z s' mk :: F) w')
theorem taken_spec {n : Nat} (hs : Sat (pgr z s mk :: F) w) (hn : n ≤ 1000) :
    Ret Tryz.prog 84 [ptr z.p, int ((n : Nat) : Int)] w (takenP z s mk n F) := by
  refine Ret.enterM [(true, ptr z.p), (true, int ((n : Nat) : Int))] _ Tryz.func84 rfl Tryz.ntmps84 rfl ?_
  refine zz ?_
  refine MC.does true (does_box hs rfl rfl) rfl ?_; rintro _ w ⟨bp, rfl, hs⟩
  refine zz ?_
  refine MC.does true (does_alloc hs) rfl ?_; rintro _ w ⟨bl, rfl, hs⟩
  refine zz ?_
  refine MC.does true (does_alloc hs) rfl ?_; rintro _ w ⟨be, rfl, hs⟩
  refine zz ?_
  refine MC.pure (f := true) (po_makeFunc rfl rfl) rfl ?_
  refine MC.defer (f := 103) (first := []) (cap := [ptr be, ptr bl, ptr bp]) (vs := []) rfl rfl rfl ?_
  refine zz ?_
  have hs := hs.sl_nil 3 1
  have hs := hs.pickF 4 [1, 2, 3, 0] rfl rfl
  refine MC.loop (σ := Nat × Value × List Nat × St) (fun x => [(2, true, ptr bp), (4, true, ptr bl), (5, true, ptr be), (9, true, int ((n : Nat) : Int)), (10, true, int ((x.1 : Nat) : Int))])
    (fun x w => x.1 ≤ n ∧ x.2.2.1.length = x.1 ∧ x.2.2.1.Nodup ∧ (∀ k ∈ x.2.2.1, k ≤ 100000 ∧ x.2.2.2.kind z.E k = some 1) ∧ (∀ r s', takenM z.E (n - x.1) x.2.2.1 x.2.2.2 r s' → takenM z.E n [] s r s') ∧
      Sat (blk be [int 0] 25 :: blk bl [x.2.1] 56 :: blk bp [ptr z.p] 31 :: sl x.2.1 3 1 x.2.2.1.length (bufV x.2.2.1) :: pgr z x.2.2.2 mk :: F) w) (fun x => n - x.1) (0, .slice none 0 0, [], s) (by repeat (first | exact trivial | refine ⟨rfl, ?_⟩)) ⟨Nat.zero_le _, rfl, List.nodup_nil, fun k hk => absurd hk List.not_mem_nil, fun r s' h => h, hs⟩ ?_
  clear hs
  rintro ⟨i, vl, l, s1⟩ w ⟨hi, hl, hnd, hk, hm, hs⟩
  dsimp only [] at hi hl hnd hk hm hs ⊢
  obtain ⟨_, q, c, rfl, hc⟩ := (hs.tail.tail.tail).sl_len
  rcases Nat.lt_or_ge i n with hlt | hge
  · have htk := take_spec (hs.pickF 5 [4, 0, 1, 2, 3] rfl rfl)
    obtain ⟨m, hnm⟩ : ∃ m, n - i = m + 1 := ⟨n - i - 1, by omega⟩
    refine zz ?_
    refine MC.does true (does_call rfl (htk)) rfl ?_
    rintro _ w (⟨k, s2, hd, rfl, hs⟩ | ⟨e, s2, he, hd, rfl, hs⟩)
    · obtain ⟨i', hi', hf, rfl, h0, rfl⟩ := takeM_ok hd
      have hs := hs.pickF 5 [1, 2, 3, 4, 0] rfl rfl
      refine zz ?_
      refine MC.does true (does_buildL hs rfl rfl rfl (all1 rfl) rfl) rfl ?_; rintro _ w ⟨b5, rfl, hs⟩
      refine zz ?_
      refine MC.does true (does_append hs rfl rfl (src_at rfl (all1 rfl)) (by omega) (by omega)) rfl ?_
      intro va w hs
      obtain ⟨_, q2, c2, rfl, hc2⟩ := (hs.tail.tail.tail.tail).sl_len
      refine zz ?_
      refine MC.does true (does_store1 hs rfl rfl rfl (by first | decide | (simp; done) | (simp; omega))) rfl ?_; intro _ w hs
      refine zz ?_
      have e3 : bufV l ++ [int ((z.E.frm + i' : Nat) : Int)] = bufV (l ++ [z.E.frm + i']) := by simp [bufV]
      have hs := hs.tail
      rw [e3] at hs
      have hki : ∀ k ∈ l, k ≠ z.E.frm + i' := fun k hk' e => by
        have := (hk k hk').2
        rw [e, kind_at hi', h0] at this
        cases this
      have hfew : z.E.frm + s1.kinds.length ≤ 100000 := by
        obtain ⟨g, hg, _, _⟩ := pgr_open (hs.pickF 5 [4, 0, 1, 2, 3] rfl rfl)
        have := hg.x.few
        simpa using this
      refine MC.again (i + 1, .slice q2 (l.length + 1) c2, l ++ [z.E.frm + i'], ⟨s1.kinds.set i' 1, upd s1.by_ (z.E.frm + i') zeros⟩) (by repeat (first | exact trivial | refine ⟨rfl, ?_⟩)) ⟨hlt, by simp [hl], ?_, ?_, ?_, ?_⟩ (by show n - (i + 1) < n - i; omega)
      · rw [List.nodup_append]
        exact ⟨hnd, by simp, fun a ha b hb => by rw [List.mem_singleton.1 hb]; exact hki a ha⟩
      · intro k hk'
        rcases List.mem_append.1 hk' with h | h
        · exact ⟨(hk k h).1, by show St.kind z.E ⟨s1.kinds.set i' 1, _⟩ k = _; rw [kind_set hi', if_neg (hki k h)]; exact (hk k h).2⟩
        · rw [List.mem_singleton.1 h]
          exact ⟨by omega, by show St.kind z.E ⟨s1.kinds.set i' 1, _⟩ _ = _; rw [kind_set hi', if_pos rfl]⟩
      · intro r s' h
        refine hm r s' ?_
        rw [hnm]
        unfold takenM
        rw [hf]
        rw [show n - (i + 1) = m by omega] at h
        exact h
      · rw [List.length_append, List.length_singleton]
        exact hs
    · obtain ⟨hf, rfl, e2⟩ := takeM_err hd
      rw [e2] at hs
      have hs := hs.pickF 5 [1, 2, 3, 4, 0] rfl rfl
      refine zz ?_
      refine MC.does true (does_store1 hs rfl rfl rfl (by first | decide | (simp; done) | (simp; omega))) rfl ?_; intro _ w hs
      refine zz ?_
      refine MC.does true (does_store1 hs rfl rfl rfl (by first | decide | (simp; done) | (simp; omega))) rfl ?_; intro _ w hs
      refine zz ?_
      refine MC.retD (args := ([] : List Value) ++ []) (cap := [ptr be, ptr bl, ptr bp]) (dropAll_spec (z := z) (be := be) (bl := bl) (bp := bp) hs hk hnd (by omega)) ?_
      rintro w' hq a hf'
      rw [if_neg (by decide)] at hq
      obtain ⟨s', hd', hs'⟩ := hq
      refine ⟨_, run_results2 hf' rfl hs' rfl rfl, .inr ⟨s', hm _ _ ?_, rfl, hs'.tail.tail.tail⟩⟩
      rw [hnm]
      unfold takenM
      rw [hf]
      exact ⟨rfl, _, hd'⟩
  · obtain rfl : i = n := by omega
    refine zz ?_
    refine MC.does true (does_store1 hs rfl rfl rfl (by first | decide | (simp; done) | (simp; omega))) rfl ?_; intro _ w hs
    refine zz ?_
    refine MC.does true (does_store1 hs rfl rfl rfl (by first | decide | (simp; done) | (simp; omega))) rfl ?_; intro _ w hs
    refine zz ?_
    refine MC.retD (args := ([] : List Value) ++ []) (cap := [ptr be, ptr bl, ptr bp]) (dropAll_spec (z := z) (be := be) (bl := bl) (bp := bp) hs hk hnd (by omega)) ?_
    rintro w' hq a hf'
    rw [if_pos rfl] at hq
    refine ⟨_, run_results2 hf' rfl hq rfl rfl, .inl ⟨l, s1, .slice q l.length c, hm _ _ ?_, hl, hnd, hk, rfl, hq.tail.tail.tail⟩⟩
    rw [Nat.sub_self]
    exact ⟨rfl, rfl⟩
end
end Go.Proofs.YtjlofdodiaklaaaGreat

namespace Go.Proofs.YtjlofdodiaklaaaGreat
open Go Go.Sl Go.Tr
attribute [local irreducible] LooksAt

theorem po_sliceArr_lo {P : Program} {fr : Fr} {d : Option Tmp} {ty : TypeId} {pos : String} {aft : Array Edge} {g : Option (Nat × Bool)} {x lo : Operand} {t e : TypeId} {n b o : Nat} {agg : Bool} {size bytes : Nat} {zero : List Value} [h1 : TyU P t (.array n e)] [h2 : TyI P e agg size bytes zero] {k : IntKind} {j : Nat} (hx : ev fr x = some (.pointer (some ⟨b, o, none⟩))) (hl : ev fr lo = some (.int k (j : Int))) (h : j < n) :
    Pure P ⟨d, .slice t x (some lo) none none, ty, pos, aft, g⟩ fr (.slice (some ⟨b, o + j * size, none⟩) (n - j) (n - j)) := fun m ds ac hf w => by
  simp only [execOp, hf.ev hx, hf.ev hl, Instr.sliceAt, Option.map_some, Option.map_none, Instr.sliceBounds]
  simp [TyU.run (P := P) (t := t) w, Instr.sureAddr, run_bound (P := P) (Nat.le_of_lt h), TyI.run_size (P := P) (t := e) w, Addr.add]
  rw [if_neg (by omega)]
  split
  · next h' => rw [h']; rfl
  · rfl
theorem reps_len (n : Nat) (v : Value) : (reps n v).length = n := List.length_replicate
theorem start_len (nx : Nat) : (two nx ++ List.replicate 254 (0 : UInt8)).length = 256 := by rw [List.length_append, List.length_replicate]; rfl
theorem page_start (nx : Nat) : ((reps 256 (Value.int .u8 0)).set (0 + Int.toNat 0 * 1) (Value.int .u8 (IntKind.u8.wrap ((nx : Int) / 256)))).set (0 + Int.toNat 1 * 1) (Value.int .u8 (IntKind.u8.wrap (nx : Int))) = bytesV (two nx ++ List.replicate 254 0) := by
  rw [show reps 256 (Value.int .u8 0) = Value.int .u8 0 :: Value.int .u8 0 :: reps 254 (Value.int .u8 0) from rfl]
  have e1 : IntKind.u8.wrap ((nx : Int) / 256) = (((UInt8.ofNat (nx / 256)).toNat : Nat) : Int) := by rw [wrap_u8]; simp
  have e2 : IntKind.u8.wrap (nx : Int) = (((UInt8.ofNat nx).toNat : Nat) : Int) := by rw [wrap_u8]; simp
  rw [e1, e2]
  show Value.int .u8 _ :: Value.int .u8 _ :: reps 254 (Value.int .u8 0) = _
  rw [show reps 254 (Value.int .u8 0) = bytesV (List.replicate 254 0) by unfold bytesV; rw [List.map_replicate]; rfl]
  rfl
theorem page_done (nx : Nat) (t : Bs) : splice (bytesV (two nx ++ List.replicate 254 0)) (0 + 2 * 1) (List.take (min t.length (256 - 2)) (bytesV t)) = bytesV (link nx t) := by
  have e1 : List.take (min t.length (256 - 2)) (bytesV t) = bytesV (t.take 254) := by
    rw [bytesV_take]
    congr 1
    rcases Nat.le_total t.length 254 with h | h
    · rw [Nat.min_eq_left h, List.take_length, List.take_of_length_le h]
    · rw [Nat.min_eq_right h]
  have h2 : (t.take 254).length ≤ 254 := by rw [List.length_take]; omega
  rw [e1, splice_eq _ _ _ (by rw [bytesV_length, bytesV_length, start_len]; omega), bytesV_length, bytesV_take, bytesV_drop, ← bytesV_append, ← bytesV_append]
  congr 1
  unfold link
  rw [show (0 + 2 * 1 : Nat) = (two nx).length from rfl, List.take_left, ← List.drop_drop, List.drop_left, List.drop_replicate, List.append_assoc]
section
variable {F : List Assn} {z : Pw} {s : St} {mk : Option (Nat × St)} {w : World}
theorem putM_fresh {E : En} {s s' : St} {k : Nat} {b : Bs} {r : Res Unit} (h : s.kind E k = some 1) (hb : b.length = 256) (hp : putM E k b s r s') : r = .ok () ∧ s' = ⟨s.kinds, upd s.by_ k b⟩ := by
  unfold putM at hp
  rw [if_pos h, if_pos hb] at hp
  exact hp
theorem link_len (next : Nat) (b : Bs) : (link next b).length = 256 := by
  unfold link two
  simp only [List.length_append, List.length_cons, List.length_nil, List.length_replicate]
  have : (b.take 254).length ≤ 254 := by rw [List.length_take]; omega
  omega
theorem cput_spec {vb : Value} {nb : Nat} {b : Bs} (hs : Sat (pgr z s mk :: F) w) (hl : RdS F 1 vb nb (bytesV b)) (hb : b.length ≤ 1000000) :
    Ret Tryz.prog 62 [ptr z.p, vb] w (OutK (chainPut z.E b) z s mk F) := by
  obtain ⟨q, c, rfl, hc, hlen⟩ := hl.shape
  obtain rfl : nb = b.length := by simpa using hlen.symm
  have hpg := fun w => pages_spec (n := b.length) (w := w) (by omega)
  refine Ret.enter [(true, ptr z.p), (true, .slice q b.length c)] _ Tryz.func62 rfl Tryz.ntmps62 rfl ?_
  by_cases hbig : 16384 < b.length
  · refine zz ?_
    refine MC.ret rfl ?_
    exact .inr ⟨3, s, by decide, by unfold chainPut; rw [if_pos hbig]; exact ⟨rfl, rfl⟩, rfl, hs⟩
  · have hpn : pagesOf b.length ≤ 1000 := by unfold pagesOf; omega
    refine zz ?_
    refine MC.does true (does_call rfl (hpg _)) rfl ?_
    rintro _ w ⟨rfl, rfl⟩
    refine zz ?_
    refine MC.does true (does_call rfl (taken_spec hs hpn)) rfl ?_
    rintro _ w (⟨l, s1, vl, hm, hll, hnd, hk, rfl, hs⟩ | ⟨s1, hm, rfl, hs⟩)
    · obtain ⟨_, ql, cl, rfl, hcl⟩ := hs.sl_len
      refine zz ?_
      refine MC.loop (σ := Nat × St) (fun x => [(0, true, ptr z.p), (1, true, .slice q b.length c), (6, true, .slice ql l.length cl), (26, true, .slice ql l.length cl), (27, true, int ((l.length : Nat) : Int)), (28, true, int ((x.1 : Nat) : Int))])
        (fun x w => x.1 ≤ l.length ∧ x.2.kinds = s1.kinds ∧ (∀ r s', chainPuts z.E (l.drop x.1) (b.drop (254 * x.1)) x.2 r s' → chainPuts z.E l b s1 r s') ∧
          Sat (sl (.slice ql l.length cl) 3 1 l.length (bufV l) :: pgr z x.2 mk :: F) w) (fun x => l.length - x.1) (0, s1) (by repeat (first | exact trivial | refine ⟨rfl, ?_⟩)) ⟨Nat.zero_le _, rfl, fun r s' h => h, hs⟩ ?_
      clear hs
      rintro ⟨i, s2⟩ w ⟨hi, hks, hm2, hs⟩
      dsimp only [] at hi hks hm2 hs ⊢
      have hr0 := RdS.of_sl hs
      rcases Nat.lt_or_ge i l.length with hlt | hge
      · obtain ⟨lb, lo, rfl, hrl⟩ := hr0.at_ (by omega)
        have hyat : (bufV l)[((i : Nat) : Int).toNat * 1]? = some (int ((l[i] : Nat) : Int)) := by
          rw [Int.toNat_natCast, Nat.mul_one]; simp [bufV, hlt]
        refine zz ?_
        refine MC.la true (la_load1_rd hrl hs (j := ((i : Nat) : Int).toNat * 1) rfl hyat) rfl ?_
        refine zz ?_
        refine MC.cutAtS (σ := Nat) 1 (fun x => [(0, true, ptr z.p), (1, true, .slice q b.length c), (6, true, .slice (some ⟨lb, lo, none⟩) l.length cl), (26, true, .slice (some ⟨lb, lo, none⟩) l.length cl), (27, true, int ((l.length : Nat) : Int)), (28, true, int ((i : Nat) : Int)), (8, true, int ((i : Nat) : Int)), (9, true, int ((l[i] : Nat) : Int)), (10, true, int ((x : Nat) : Int))])
          (fun x w => x = (if h : i + 1 < l.length then l[i + 1] else 65535) ∧ Sat (sl (.slice (some ⟨lb, lo, none⟩) l.length cl) 3 1 l.length (bufV l) :: pgr z s2 mk :: F) w) rfl ?_ ?_
        rotate_left
        · by_cases hn : i + 1 < l.length
          · have hyat2 : (bufV l)[(((i : Nat) : Int) + 1).toNat * 1]? = some (int ((l[i + 1] : Nat) : Int)) := by
              rw [show (((i : Nat) : Int) + 1).toNat = i + 1 by omega, Nat.mul_one]; simp [bufV, hn]
            refine zz ?_
            refine MC.la true (la_load1_rd hrl hs (j := (((i : Nat) : Int) + 1).toNat * 1) rfl hyat2) rfl ?_
            refine zz ?_
            exact MC.meetS l[i + 1] (by repeat (first | exact trivial | refine ⟨rfl, ?_⟩)) ⟨by rw [dif_pos hn], hs⟩
          · refine zz ?_
            exact MC.meetS 65535 (by repeat (first | exact trivial | refine ⟨rfl, ?_⟩)) ⟨by rw [dif_neg hn], hs⟩
        clear hs
        rintro nx w ⟨hnx, hs⟩
        (try dsimp only [List.drop_succ_cons, List.drop_zero, List.take_succ_cons, List.take_zero, List.cons_append, List.nil_append])
        have hnb : nx ≤ 100000 := by
          rw [hnx]; split
          · exact (hk _ (List.getElem_mem _)).1
          · decide
        have hi254 : i * 254 ≤ b.length := by
          have : l.length = pagesOf b.length := hll
          unfold pagesOf at this
          omega
        refine zz ?_
        refine MC.does true (does_alloc hs) rfl ?_; rintro _ w ⟨ba, rfl, hs⟩
        refine zz ?_
        refine MC.does true (does_store1 hs rfl rfl rfl (by rw [reps_len]; decide)) rfl ?_; intro _ w hs
        refine zz ?_
        refine MC.does true (does_store1 hs rfl rfl rfl (by rw [List.length_set, reps_len]; decide)) rfl ?_; intro _ w hs
        rw [page_start] at hs
        refine zz ?_
        refine MC.draw hs [0, 1, 2, 3, 4, 5] (by rfl) ?_; intro w hs
        refine MC.pure (f := true) (po_sliceArr_lo rfl rfl (by decide)) rfl ?_
        refine zd ?_
        refine MC.pure (f := true) (po_slice_lo (a := i * 254) rfl rfl hi254) rfl ?_
        have hsub := hl.subLo (a := i * 254) hi254
        refine MC.doesK true (does_copy hs rfl rfl (hsub.src2 (bytesV_one _)) ?_) rfl rfl rfl ?_
        · rw [bytesV_length, start_len]
          show 2 + min (b.length - i * 254) 254 * 1 ≤ 256
          have := Nat.min_le_right (b.length - i * 254) 254
          omega
        rintro _ w ⟨rfl, hs⟩
        refine zh ?_
        refine zd ?_
        refine zz ?_
        have e5 : splice (bytesV (two nx ++ List.replicate 254 0)) (0 + 2 * 1) (List.take (min (List.length b - i * 254) (256 - 2) * 1) (bytesV (List.drop (i * 254) b))) = bytesV (link nx (b.drop (i * 254))) := by
          rw [← List.length_drop, show min (List.drop (i * 254) b).length (256 - 2) * 1 = min (List.drop (i * 254) b).length (256 - 2) from Nat.mul_one _]
          exact page_done nx _
        rw [e5] at hs
        have hs := hs.pickF 3 [2, 0, 1] rfl rfl
        have hki : s2.kind z.E l[i] = some 1 := by
          have := (hk l[i] (List.getElem_mem hlt)).2
          unfold St.kind at this ⊢
          rw [hks]; exact this
        have hrd : RdS (blk ba (bytesV (link nx (b.drop (i * 254)))) 112 :: sl (.slice (some ⟨lb, lo, none⟩) l.length cl) 3 1 l.length (bufV l) :: F) 1 (.slice (some ⟨ba, 0, none⟩) 256 256) 256 (bytesV (link nx (b.drop (i * 254)))) :=
          ⟨_, _, rfl, Nat.le_refl _, by rw [bytesV_length, link_len], fun _ => ⟨ba, 0, rfl, Rd.of_at⟩⟩
        refine MC.pure (f := true) (po_sliceArr rfl) rfl ?_
        refine MC.does true (does_call rfl (pput_spec hs hrd (hk _ (List.getElem_mem hlt)).1)) rfl ?_
        have hnext : ∀ r s3, putM z.E l[i] (link nx (b.drop (i * 254))) s2 r s3 → r = .ok () ∧ s3.kinds = s1.kinds ∧ ∀ r' s', chainPuts z.E (l.drop (i + 1)) (b.drop (254 * (i + 1))) s3 r' s' → chainPuts z.E l b s1 r' s' := fun r s3 h => by
          obtain ⟨rfl, e⟩ := putM_fresh hki (link_len _ _) h
          refine ⟨rfl, by rw [e]; exact hks, fun r' s' h' => hm2 _ _ ?_⟩
          rw [Nat.mul_comm] at h
          rw [List.drop_eq_getElem_cons hlt]
          by_cases hn : i + 1 < l.length
          · rw [List.drop_eq_getElem_cons hn] at h' ⊢
            rw [dif_pos hn] at hnx
            rw [hnx] at h
            refine .inr ⟨(), s3, h, ?_⟩
            rw [List.drop_drop, show 254 * i + 254 = 254 * (i + 1) by omega]
            exact h'
          · rw [List.drop_of_length_le (by omega)] at h' ⊢
            rw [dif_neg hn] at hnx
            rw [hnx] at h
            obtain ⟨rfl, rfl⟩ := h'
            exact h
        rintro _ w (⟨_, s3, hp, rfl, hs⟩ | ⟨e, s3, _, hp, rfl, hs⟩)
        · obtain ⟨_, h1, h2⟩ := hnext _ _ hp
          refine zz ?_
          exact MC.again (i + 1, s3) (by repeat (first | exact trivial | refine ⟨rfl, ?_⟩)) ⟨hlt, h1, h2, (hs.pickF 3 [1, 2, 0] rfl rfl).tail⟩ (by show l.length - (i + 1) < l.length - i; omega)
        · cases (hnext _ _ hp).1
      · obtain rfl : i = l.length := by omega
        have hl0 : 0 < l.length := by rw [hll]; exact pagesOf_pos _
        obtain ⟨lb, lo, rfl, hrl⟩ := hr0.at_ (by omega)
        have hyat : (bufV l)[0]? = some (int ((l[0] : Nat) : Int)) := by simp [bufV, hl0]
        refine zz ?_
        refine MC.la true (la_load1_rd hrl hs (j := 0) rfl hyat) rfl ?_
        refine zz ?_
        refine MC.ret rfl ?_
        refine .inl ⟨l.headD 0, s2, ?_, ?_, hs.tail⟩
        · unfold chainPut; rw [if_neg hbig]
          refine .inr ⟨l, s1, hm, .inr ⟨(), s2, hm2 _ _ ?_, rfl, rfl⟩⟩
          rw [List.drop_length]; exact ⟨rfl, rfl⟩
        · cases l with
          | nil => cases hl0
          | cons a l => rfl
    · refine zz ?_
      refine MC.ret rfl ?_
      exact .inr ⟨190, s1, by decide, by unfold chainPut; rw [if_neg hbig]; exact .inl ⟨_, hm, rfl⟩, rfl, hs⟩
end
end Go.Proofs.YtjlofdodiaklaaaGreat
