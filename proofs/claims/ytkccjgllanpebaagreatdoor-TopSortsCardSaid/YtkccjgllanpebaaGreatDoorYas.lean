/-
  Numbers in decimal digits: strconv | Pages: clones, what one says of a pager; none, kind | Values' keys: text, digits | Pages: Take, Put, Get, Drop
-/
import Derived.Test.YtkccjgllanpebaaGreatDoorYar
import Derived.Lib.ItoaMem
import Derived.Test.YtkccjgllanpebaaGreatDoorYai
import Derived.Test.YtkccjgllanpebaaGreatDoorYab
set_option maxHeartbeats 1000000
set_option linter.unusedVariables false
set_option linter.unusedSimpArgs false
namespace Go.Proofs.YtkccjgllanpebaaGreatDoor
open Go Go.Sl Go.Tr Go.Kv
attribute [local irreducible] LooksAt
theorem Sat.putRow {α : Type} [Inhabited α] {enc : α → Value} {b off : Nat} {cs : List Value} {t : TypeId} {l : List Assn} {w : World} {d : Array α} (h : Sat (blk b cs t :: l) w) : Sat (blk b (Sort.putCells enc off d cs.toArray).toList t :: l) (Sort.putRow enc w b off d) := by
  obtain ⟨f, hb, hf⟩ := h.blk_heap
  have hlt := (Array.getElem?_eq_some_iff.1 hb).1
  refine h.put_at (o' := .cells (Sort.putCells enc off d cs.toArray) t f) (b := b) (fun _ k ⟨f, hk, _⟩ => by rw [hk]; rfl) hlt ?_ rfl fun _ k hk => ⟨f, ?_, ?_⟩
  · unfold Sort.putRow Sort.mapBlock
    apply Array.ext_getElem?
    intro k
    simp only [Array.getElem?_modify, Array.getElem?_setIfInBounds]
    by_cases hk : b = k
    · subst hk
      rw [if_pos rfl, if_pos rfl, if_pos hlt, hb]
      rfl
    · rw [if_neg hk, if_neg hk]
  · rw [hk]
  · simpa [Sort.putCells] using hf
theorem Sat.drewN {l : List Assn} {w : World} (h : Sat l w) (n : Nat) : Sat l (w.drewN n) := h.of_heap rfl rfl
theorem dec_cells {N nd : Nat} {dk : Array UInt8} {ds : List UInt8} {cs : List Value} (hcs : cs.length = N) (hd : dk.size = nd) (hN : nd ≤ N) (hl : ds.length = nd) (h : ∀ j (hj : j < ds.length), ds[j] = dk[j]!) :
    ((Sort.putCells (fun (b : UInt8) => Value.int .u8 (b.toNat : Int)) 0 dk cs.toArray).toList).take nd = bytesV ds := by
  apply List.ext_getElem?
  intro i
  rw [List.getElem?_take]
  split
  · next hi =>
    rw [Array.getElem?_toList]
    simp only [Sort.putCells, Array.getElem?_mapIdx, List.getElem?_toArray]
    rw [List.getElem?_eq_getElem (by omega), Option.map_some, if_pos ⟨Nat.zero_le _, by omega⟩, Nat.sub_zero]
    have := h i (by omega)
    simp only [bytesV, List.getElem?_map]
    rw [List.getElem?_eq_getElem (by omega), ← this]
    rfl
  · next hi =>
    rw [List.getElem?_eq_none (by rw [bytesV_length]; omega)]
theorem small_spec {F : List Assn} {w : World} {u : Nat} (hs : Sat F w) (hu : u < 100) : Ret Tryz.prog 143 [int ((u : Nat) : Int)] w fun v w' => v = str (Lib.decDigits u) ∧ Sat F w' :=
  Calls.mono (Tryz.internal_strconv_small u hu w) fun e w' ⟨he, hw⟩ => ⟨_, he, rfl, by rw [hw]; exact hs⟩
theorem ndig_spec {F : List Assn} {w : World} {u : Nat} (hs : Sat F w) (hT : Tabs F) (h1 : 1 ≤ u) (h2 : u < 18446744073709551616) : Ret Tryz.prog 144 [.int .u64 ((u : Nat) : Int)] w fun v w' => v = int ((Lib.nDigits u : Nat) : Int) ∧ Sat F w' :=
  Calls.mono (Tryz.internal_strconv_numDigits u h1 h2 w (hT.pow w hs)) fun e w' ⟨he, hw⟩ => ⟨_, he, rfl, by rw [hw]; exact hs⟩
theorem base_spec {F : List Assn} {w : World} {b u nd N : Nat} {t : TypeId} (hs : Sat (blk b (reps N (.int .u8 0)) t :: F) w) (hnd : nd = Lib.nDigits u) (hN : nd ≤ N) (hN2 : N ≤ 1000) (hu : u < 18446744073709551616) (c : Nat) :
    Ret Tryz.prog 145 [.slice (some ⟨b, 0, none⟩) nd c, .int .u64 ((u : Nat) : Int)] w fun v w' => v = .tuple #[] ∧ ∃ cs', cs'.length = N ∧ cs'.take nd = bytesV (Lib.decDigits u) ∧ Sat (blk b cs' t :: F) w' := by
  have hsz : (Array.replicate nd (0 : UInt8)).size = nd := Array.size_replicate
  have h := Tryz.internal_strconv_formatBase10 b 0 c u (Array.replicate nd 0) w (fun j hj => by
    rw [hsz] at hj
    refine ⟨?_, ?_⟩
    · have hz : (Array.replicate nd (0 : UInt8))[j]! = 0 := by rw [getElem!_pos _ j (by rw [hsz]; exact hj)]; simp
      rw [hs.blk_cell, Nat.zero_add, hz]
      unfold reps
      rw [List.getElem?_replicate, if_pos (by omega)]; rfl
    · exact hs.blk_frozen _ (by rw [reps_length]; omega)) (by rw [hsz, hnd]; exact Lib.lt_pow_nDigits u) hu (by rw [hsz]; omega)
  rw [hsz] at h
  refine Calls.mono h ?_
  rintro e w' ⟨he, n, v', dk, hw, hI⟩
  subst hw
  rw [hnd] at hI
  refine ⟨_, he, rfl, _, ?_, ?_, Sat.drewN (Sat.putRow hs) n⟩
  · simp [Sort.putCells, reps_length]
  · exact dec_cells (N := N) (by rw [reps_length]) (by rw [hI.size, hnd]) hN (by rw [Lib.decDigits_length, hnd]) fun j hj => Lib.row_is_numeral hI j hj
theorem format_spec {F : List Assn} {w : World} {u : Nat} (hs : Sat F w) (hT : Tabs F) (h2 : u < 18446744073709551616) : Ret Tryz.prog 127 [.int .u64 ((u : Nat) : Int), int 10] w fun v w' => v = str (Lib.decDigits u) ∧ Sat F w' := by
  refine Ret.enter [(true, .int .u64 ((u : Nat) : Int)), (true, int 10)] _ Tryz.func127 rfl Tryz.ntmps127 rfl ?_
  rcases Nat.lt_or_ge u 100 with h | h
  · refine zz ?_
    refine zc rfl (small_spec hs h) ?_
    rintro _ w ⟨rfl, hs⟩
    refine zz ?_
    refine MC.ret rfl ?_
    exact ⟨rfl, hs⟩
  · refine zz ?_
    refine MC.does true (does_alloc hs) rfl ?_; rintro _ w ⟨b5, rfl, hs⟩
    have hdl := Lib.decDigits_length u
    have hnd : Lib.nDigits u ≤ 20 := nDigits_le 19 u (by omega)
    obtain ⟨nd, hn⟩ : ∃ nd, nd = Lib.nDigits u := ⟨_, rfl⟩
    have hns := fun {w : World} {G : List Assn} (hs : Sat G w) (hT : Tabs G) => ndig_spec (u := u) hs hT (by omega) h2
    rw [← hn] at hns hnd hdl
    refine zz ?_
    refine zc rfl (hns hs hT.up) ?_
    rintro _ w ⟨rfl, hs⟩
    refine zz ?_
    refine MC.pure (f := true) (po_slice_arr_hi (b := nd) rfl rfl (by omega)) rfl ?_
    refine zz ?_
    refine zc rfl (base_spec hs hn (by omega) (by decide) h2 _) ?_
    rintro _ w ⟨rfl, cs', hl, htk, hs⟩
    refine zz ?_
    refine MC.pure (f := true) (po_slice_arr_hi (b := nd) rfl rfl (by omega)) rfl ?_
    refine zz ?_
    have hrd : RdS (blk b5 cs' 222 :: F) 1 (.slice (some ⟨b5, 0, none⟩) nd 24) nd (bytesV (Lib.decDigits u)) := by
      refine ⟨_, _, rfl, by omega, by rw [bytesV_length, hdl, Nat.mul_one], fun _ => ⟨b5, 0, rfl, fun w hw j x hj => ?_⟩⟩
      rw [hw.blk_cell, Nat.zero_add]
      have hjl : j < nd := by
        rcases Nat.lt_or_ge j nd with h | h
        · exact h
        · rw [List.getElem?_eq_none (by rw [bytesV_length]; omega)] at hj; cases hj
      rw [← htk, List.getElem?_take, if_pos hjl] at hj
      exact hj
    refine MC.la true (la_tostr rfl hrd hs) rfl ?_
    refine zz ?_
    refine MC.ret rfl ?_
    exact ⟨rfl, hs.tail⟩
theorem fmt_spec {F : List Assn} {w : World} {u : Nat} (hs : Sat F w) (hT : Tabs F) (h2 : u < 18446744073709551616) : Ret Tryz.prog 95 [.int .u64 ((u : Nat) : Int), int 10] w fun v w' => v = str (Lib.decDigits u) ∧ Sat F w' := by
  have h := format_spec hs hT h2
  refine Ret.enter [(true, .int .u64 ((u : Nat) : Int)), (true, int 10)] _ Tryz.func95 rfl Tryz.ntmps95 rfl ?_
  refine zz ?_
  refine zc rfl (h) ?_
  rintro _ w ⟨rfl, hs⟩
  refine zz ?_
  refine MC.ret rfl ?_
  exact ⟨rfl, hs⟩
end Go.Proofs.YtkccjgllanpebaaGreatDoor

namespace Go.Proofs.YtkccjgllanpebaaGreatDoor
open Go Go.Sl Go.Tr
attribute [local irreducible] LooksAt
theorem bclone_spec {F : List Assn} {vb : Value} {n : Nat} {l : Bs} {w : World} (hs : Sat F w) (hl : RdS F 1 vb n (bytesV l)) (hn : l.length ≤ 1000000) :
    Ret Tryz.prog 61 [vb] w fun v w' => Sat (sl v 5 1 l.length (bytesV l) :: F) w' := by
  obtain ⟨q, c, rfl, hc, hlen⟩ := hl.shape
  obtain rfl : n = l.length := by simpa using hlen.symm
  cases q with
  | none =>
    have h0 : l.length = 0 := by
      rcases Nat.eq_zero_or_pos l.length with h | h
      · exact h
      · obtain ⟨b, o, h', _⟩ := hl.at_ (by omega); cases h'
    have hl0 : l = [] := List.eq_nil_of_length_eq_zero h0
    subst hl0
    refine Ret.enter [(true, .slice none 0 c)] _ Tryz.func61 rfl Tryz.ntmps61 rfl ?_
    refine zz ?_
    refine MC.pure (f := true) (po_bin rfl rfl br_slice_nil) rfl ?_
    refine zz ?_
    refine MC.ret rfl ?_
    exact hs.sl_nil _ _
  | some a =>
    refine Ret.enter [(true, .slice (some a) l.length c)] _ Tryz.func61 rfl Tryz.ntmps61 rfl ?_
    refine zz ?_
    refine MC.pure (f := true) (po_bin rfl rfl br_slice_nil) rfl ?_
    refine zz ?_
    refine MC.does true (does_buildSlice0 hs) rfl ?_
    rintro _ w ⟨b1, rfl, hs⟩
    have hs := Sat.sl_mk (xs := []) (spare := []) (n := 0) (c := 0) (size := 1) hs (Nat.le_refl _) rfl rfl
    refine zz ?_
    refine MC.does true (does_append hs rfl rfl (RdS.src hl (bytesV_one _)) (by omega) (by omega)) rfl ?_
    intro vn w hs
    rw [Nat.zero_add, List.nil_append] at hs
    refine zz ?_
    refine MC.ret rfl ?_
    exact hs
theorem bufV_one (l : List Nat) : ∀ u ∈ bufV l, u.oneCell' = true := fun u hu => by
  obtain ⟨i, _, rfl⟩ := List.mem_map.1 hu; rfl
theorem iclone_spec {F : List Assn} {G : List Value → List Assn} {b n c : Nat} {l : List Nat} {sp : List Value} {w : World} (hs : Sat F w) [hA : At F b (bufV l ++ sp) 3 G] (hl : l.length = n) (hn : n ≤ 100000) (hc : n ≤ c) :
    Ret Tryz.prog 87 [.slice (some ⟨b, 0, none⟩) n c] w fun v w' => Sat (sl v 3 1 n (bufV l) :: F) w' := by
  have hrd : RdS F 1 (.slice (some ⟨b, 0, none⟩) n c) n (bufV l) := by
    refine ⟨_, _, rfl, hc, by simp [bufV, hl], fun _ => ⟨b, 0, rfl, fun w hw j u hu => ?_⟩⟩
    refine (Rd.of_at (h := hA)) w hw j u ?_
    rw [List.getElem?_append_left]
    · exact hu
    · rcases Nat.lt_or_ge j (bufV l).length with h | h
      · exact h
      · rw [List.getElem?_eq_none h] at hu; cases hu
  refine Ret.enter [(true, .slice (some ⟨b, 0, none⟩) n c)] _ Tryz.func87 rfl Tryz.ntmps87 rfl ?_
  refine zz ?_
  refine MC.pure (f := true) (po_bin rfl rfl br_slice_nil) rfl ?_
  refine zz ?_
  refine MC.does true (does_buildSlice0 hs) rfl ?_
  rintro _ w ⟨b1, rfl, hs⟩
  have hs := Sat.sl_mk (xs := []) (spare := []) (n := 0) (c := 0) (size := 1) hs (Nat.le_refl _) rfl rfl
  refine zz ?_
  refine MC.does true (does_append hs rfl rfl (RdS.src hrd (bufV_one _)) (by omega) (by omega)) rfl ?_
  intro vn w hs
  rw [Nat.zero_add, List.nil_append] at hs
  refine zz ?_
  refine MC.ret rfl ?_
  exact hs
theorem index_spec {F : List Assn} {G : List Value → List Assn} {b n c : Nat} {l : List Nat} {sp : List Value} {w : World} (hs : Sat F w) [hA : At F b (bufV l ++ sp) 3 G] (hl : l.length = n) (hn : n ≤ 100000) (hc : n ≤ c) :
    Ret Tryz.prog 100 [.slice (some ⟨b, 0, none⟩) n c, int 0] w fun v w' => v = int (match l.findIdx? (· == 0) with
      | some i => ((i : Nat) : Int)
      | none => -1) ∧ w' = w := by
  refine Ret.enter [(true, .slice (some ⟨b, 0, none⟩) n c), (true, int 0)] _ Tryz.func100 rfl Tryz.ntmps100 rfl ?_
  refine zz ?_
  refine MC.loop (σ := Nat) (fun i => [(0, true, .slice (some ⟨b, 0, none⟩) n c), (1, true, int 0), (7, true, int ((n : Nat) : Int)), (8, true, int ((i : Nat) : Int))]) (fun i w' => i ≤ n ∧ (∀ (j : Nat) (h : j < l.length), j < i → l[j] ≠ 0) ∧ w' = w) (fun i => n - i) 0 zi ⟨Nat.zero_le _, fun j _ h => by omega, rfl⟩ ?_
  rintro i w' ⟨hi, hno, rfl⟩
  rcases Nat.lt_or_ge i n with hlt | hge
  · have h0 : (bufV l ++ sp)[0 + ((i : Nat) : Int).toNat * 1]? = some (int ((l[i]'(by omega) : Nat) : Int)) := by
      rw [Int.toNat_natCast, Nat.zero_add, Nat.mul_one, List.getElem?_append_left (by rw [bufV_length]; omega)]
      simp [bufV, hl, hlt]
    refine zz ?_
    refine MC.la true (la_load1 hs rfl h0) rfl ?_
    by_cases hk : l[i]'(by omega) = 0
    · rw [hk]
      refine zz ?_
      refine MC.ret rfl ?_
      refine ⟨?_, rfl⟩
      have : l.findIdx? (· == 0) = some i := by
        rw [List.findIdx?_eq_some_iff_getElem]
        exact ⟨by omega, by simp [hk], fun j hj => by simpa using hno j (by omega) hj⟩
      rw [this]; rfl
    · refine zz ?_
      exact MC.again (i + 1) zi ⟨hlt, fun j h hj => by
        rcases Nat.lt_or_ge j i with h' | h'
        · exact hno j h h'
        · obtain rfl : j = i := by omega
          exact hk, rfl⟩ (by omega)
  · obtain rfl : i = n := by omega
    refine zz ?_
    refine MC.ret rfl ?_
    refine ⟨?_, rfl⟩
    have : l.findIdx? (· == 0) = none := by
      rw [List.findIdx?_eq_none_iff]
      intro x hx
      obtain ⟨j, hj, rfl⟩ := List.mem_iff_getElem.1 hx
      simpa using hno j hj (by omega)
    rw [this]; rfl
structure Half where
  kb : Nat
  kc : Nat
  sp : List Value
  mb : Nat
  m : List (Int × Value)
abbrev Half.kv (x : Half) (s : St) : Value := .slice (some ⟨x.kb, 0, none⟩) s.kinds.length x.kc
abbrev Half.kA (x : Half) (s : St) : Assn := blk x.kb (bufV s.kinds ++ x.sp) 3
structure Half.ok (x : Half) (E : En) (s : St) (pool : List (Value × Bs)) (H : Nat → Prop) : Prop where
  pos : 0 < s.kinds.length
  few : E.frm + s.kinds.length ≤ 100000
  cap : s.kinds.length ≤ x.kc
  spl : s.kinds.length + x.sp.length = x.kc
  small : ∀ c ∈ s.kinds, c ≤ 3
  has : ∀ k, s.kind E k = some 1 → (s.by_ k).length = 256 ∧ ∃ v, mget x.m ((k : Nat) : Int) = some v ∧ (v, s.by_ k) ∈ pool
  held : ∀ k, H k ↔ s.kind E k = some 2 ∨ s.kind E k = some 3
theorem Half.ok.mono {x : Half} {E : En} {s : St} {pool pool' : List (Value × Bs)} {H : Nat → Prop} (h : x.ok E s pool H) (hp : ∀ y ∈ pool, y ∈ pool') : x.ok E s pool' H :=
  ⟨h.pos, h.few, h.cap, h.spl, h.small, fun k hk => by
      obtain ⟨h1, v, h2, h3⟩ := h.has k hk
      exact ⟨h1, v, h2, hp _ h3⟩, h.held⟩
abbrev pblk (p pd q : Nat) (frm : Nat) (kv : Value) (mb : Nat) (round touched : Int) : Assn := blk p [ptr pd, ptr q, int ((frm : Nat) : Int), kv, .map (some mb), int round, int touched] 164
def mkA (p : Nat) (round : Int) (mk : Option (Nat × St)) (y : Half) : Assn := match mk with
  | none => star []
  | some (m, s0) => star [blk m [ptr p, int round, y.kv s0, .map (some y.mb)] 175, y.kA s0, mp y.mb y.m]
structure Pg where
  x : Half
  y : Half
  round : Int
  touched : Int
  pool : List (Value × Bs)
structure Pg.ok (g : Pg) (E : En) (H : Nat → Prop) (s : St) (mk : Option (Nat × St)) : Prop where
  x : g.x.ok E s g.pool H
  y : match mk with
    | none => True
    | some (_, s0) => g.y.ok E s0 g.pool H
theorem Pg.ok.grow {g : Pg} {E : En} {H : Nat → Prop} {s s' : St} {mk : Option (Nat × St)} {pool' : List (Value × Bs)} {x' : Half} {r t : Int} (h : g.ok E H s mk) (hp : ∀ y ∈ g.pool, y ∈ pool') (hx : x'.ok E s' pool' H) : (⟨x', g.y, r, t, pool'⟩ : Pg).ok E H s' mk :=
  ⟨hx, by have := h.y; cases mk with
    | none => trivial
    | some z => exact Half.ok.mono this hp⟩
structure Pw where
  p : Nat
  q : Nat
  pd : Nat
  D : Dev
  E : En
  H : Nat → Prop
structure Pw.ok (z : Pw) : Prop where
  dev : z.D.ok
  few : z.D.O.length ≤ 100000
  fits : ∀ k, z.H k → k < z.D.S.length
  sec : ∀ k, z.H k → z.D.get k = z.E.sec k
  down : z.E.down = true ↔ z.D.fuse = 1
def pgr (z : Pw) (s : St) (mk : Option (Nat × St)) : Assn := Sl.ex fun g : {g : Pg // g.ok z.E z.H s mk ∧ z.ok} =>
  star [pblk z.p z.pd z.q z.E.frm (g.1.x.kv s) g.1.x.mb g.1.round g.1.touched, g.1.x.kA s, mp g.1.x.mb g.1.x.m, bods 5 g.1.pool, cach z.q z.pd z.E.sec z.H none, devr z.pd z.D, mkA z.p g.1.round mk g.1.y]
section
variable {F : List Assn} {z : Pw} {s : St} {mk : Option (Nat × St)} {w : World}
theorem pgr_open (hs : Sat (pgr z s mk :: F) w) : ∃ g : Pg, g.ok z.E z.H s mk ∧ z.ok ∧ Sat (pblk z.p z.pd z.q z.E.frm (g.x.kv s) g.x.mb g.round g.touched :: g.x.kA s :: mp g.x.mb g.x.m :: bods 5 g.pool :: cach z.q z.pd z.E.sec z.H none :: devr z.pd z.D :: mkA z.p g.round mk g.y :: F) w := by
  obtain ⟨g, hs⟩ := Sat.ex_iff.1 hs
  exact ⟨g.1, g.2.1, g.2.2, hs.unstar⟩
theorem pgr_shut {g : Pg} (hg : g.ok z.E z.H s mk) (hz : z.ok) (hs : Sat (pblk z.p z.pd z.q z.E.frm (g.x.kv s) g.x.mb g.round g.touched :: g.x.kA s :: mp g.x.mb g.x.m :: bods 5 g.pool :: cach z.q z.pd z.E.sec z.H none :: devr z.pd z.D :: mkA z.p g.round mk g.y :: F) w) : Sat (pgr z s mk :: F) w :=
  Sat.ex_iff.2 ⟨⟨g, hg, hz⟩, Sat.restar (l := [_, _, _, _, _, _, _]) hs⟩
end
theorem pgr_shutL {F : List Assn} {z : Pw} {s : St} {mk : Option (Nat × St)} {w : World} {n kb kc mb : Nat} {sp : List Value} {m : List (Int × Value)} {y : Half} {r t : Int} {pool : List (Value × Bs)} (hg : (⟨⟨kb, kc, sp, mb, m⟩, y, r, t, pool⟩ : Pg).ok z.E z.H s mk) (hz : z.ok) (hl : s.kinds.length = n) (hs : Sat (pblk z.p z.pd z.q z.E.frm (.slice (some ⟨kb, 0, none⟩) n kc) mb r t :: blk kb (bufV s.kinds ++ sp) 3 :: mp mb m :: bods 5 pool :: cach z.q z.pd z.E.sec z.H none :: devr z.pd z.D :: mkA z.p r mk y :: F) w) : Sat (pgr z s mk :: F) w := by
  subst hl
  exact pgr_shut hg hz hs
theorem bods_add {F : List Assn} {w : World} {t : TypeId} {v : Value} {n : Nat} {b : Bs} {l : List (Value × Bs)} (hb : b.length = n) (h : Sat (sl v t 1 n (bytesV b) :: bods t l :: F) w) : Sat (bods t (l ++ [(v, b)]) :: F) w := by
  subst hb
  exact bods_snoc h
def Out {α : Type} (m : M α) (s : St) (ok : α → St → Value → World → Prop) (er : Int → St → Value → World → Prop) (v : Value) (w : World) : Prop :=
  (∃ a s', m s (.ok a) s' ∧ ok a s' v w) ∨ (∃ e s', e ≠ 0 ∧ m s (.err e) s' ∧ er e s' v w)
abbrev OutK (m : M Nat) (z : Pw) (s : St) (mk : Option (Nat × St)) (F : List Assn) : Value → World → Prop := Out m s (fun k s' v w => v = .tuple #[int ((k : Nat) : Int), int 0] ∧ Sat (pgr z s' mk :: F) w) (fun e s' v w => v = .tuple #[int 0, int e] ∧ Sat (pgr z s' mk :: F) w)
abbrev OutU (m : M Unit) (z : Pw) (s : St) (mk : Option (Nat × St)) (F : List Assn) : Value → World → Prop := Out m s (fun _ s' v w => v = int 0 ∧ Sat (pgr z s' mk :: F) w) (fun e s' v w => v = int e ∧ Sat (pgr z s' mk :: F) w)
theorem pnone_spec {F : List Assn} {G : List Value → List Assn} {p pd : Nat} {cs : List Value} {w : World} (hs : Sat F w) [hA : At F p (ptr pd :: cs) 164 G] :
    Ret Tryz.prog 86 [ptr p] w fun v w' => v = bool false ∧ w' = w := by
  refine Ret.enter [(true, ptr p)] _ Tryz.func86 rfl Tryz.ntmps86 rfl ?_
  refine zz ?_
  refine MC.ret rfl ?_
  exact ⟨rfl, rfl⟩
def kindI : Option Nat → Int
  | none => -1
  | some c => ((c : Nat) : Int)
theorem kind_spec {F : List Assn} {G G2 : List Value → List Assn} {p frm b n c : Nat} {a1 a2 a3 a4 a5 : Value} {l : List Nat} {sp : List Value} {w : World} (hs : Sat F w) [hA : At F p [a1, a2, int ((frm : Nat) : Int), .slice (some ⟨b, 0, none⟩) n c, a3, a4, a5] 164 G] [hB : At F b (bufV l ++ sp) 3 G2] (hl : l.length = n) (hn : frm + n ≤ 100000) (k : Nat) (hk : k ≤ 100000) :
    Ret Tryz.prog 83 [ptr p, int ((k : Nat) : Int)] w fun v w' => v = int (kindI (if k < frm then none else l[k - frm]?)) ∧ Sat F w' := by
  refine Ret.enter [(true, ptr p), (true, int ((k : Nat) : Int))] _ Tryz.func83 rfl Tryz.ntmps83 rfl ?_
  refine zz ?_
  refine MC.draw hs [0, 1, 2, 3, 4, 5, 6, 7, 8, 9, 10, 11, 12, 13, 14, 15, 16, 17, 18, 19] (by rfl) ?_; intro w hs
  by_cases h1 : k < frm
  · refine zd ?_
    refine MC.ret rfl ?_
    rw [if_pos h1]
    exact ⟨rfl, hs⟩
  · refine zd ?_
    rw [if_neg h1]
    by_cases h2 : frm + n ≤ k
    · refine zz ?_
      refine MC.ret rfl ?_
      rw [List.getElem?_eq_none (by omega)]
      exact ⟨rfl, hs⟩
    · refine zz ?_
      refine MC.draw hs [0, 1, 2, 3, 4, 5, 6, 7, 8, 9, 10, 11, 12] (by rfl) ?_; intro w hs
      have hlt : k - frm < l.length := by omega
      have h0 : (bufV l ++ sp)[0 + (((k : Nat) : Int) - ((frm : Nat) : Int)).toNat * 1]? = some (int ((l[k - frm] : Nat) : Int)) := by
        rw [Nat.zero_add, Nat.mul_one, show (((k : Nat) : Int) - ((frm : Nat) : Int)).toNat = k - frm by omega, List.getElem?_append_left (by rw [bufV_length]; omega)]
        simp [bufV, hlt]
      refine zd ?_
      refine MC.laD true (la_load1 hs rfl h0) rfl ?_
      refine zd ?_
      refine MC.ret rfl ?_
      rw [List.getElem?_eq_getElem hlt]
      exact ⟨rfl, hs⟩
end Go.Proofs.YtkccjgllanpebaaGreatDoor

namespace Go.Proofs.YtkccjgllanpebaaGreatDoor
open Go Go.Sl Go.Tr Go.Kv
attribute [local irreducible] LooksAt
theorem esc_snoc (s : Bs) (c : UInt8) : esc (s ++ [c]) = esc s ++ if c = 0 then [0, 255] else [c] := by
  unfold esc; rw [List.flatMap_append]; simp
theorem esc_len (s : Bs) : s.length ≤ (esc s).length ∧ (esc s).length ≤ 2 * s.length := by
  unfold esc
  induction s with
  | nil => simp
  | cons c s ih =>
    rw [List.flatMap_cons, List.length_append, List.length_cons]
    split <;> (simp only [List.length_cons, List.length_nil]; omega)
theorem sl_eq {F : List Assn} {v : Value} {e : TypeId} {n m : Nat} {xs : List Value} {l : Bs} {w : World} (h : Sat (sl v e 1 n xs :: F) w) (hm : n = m) (hl : m = l.length) (hx : xs = bytesV l) : Sat (sl v e 1 l.length (bytesV l) :: F) w := by
  subst hm; subst hx; rw [hl] at h; exact h
theorem bytesV_app (l m : Bs) : bytesV (l ++ m) = bytesV l ++ bytesV m := List.map_append
theorem text_spec {F : List Assn} {w : World} {vo : Value} {ob s : Bs} (hs : Sat (sl vo 5 1 ob.length (bytesV ob) :: F) w) (ho : ob.length ≤ 1000000) (hl : s.length ≤ 1000000) :
    Ret Tryz.prog 49 [vo, str s] w fun v w' => Sat (sl v 5 1 (ob ++ textK s).length (bytesV (ob ++ textK s)) :: F) w' := by
  obtain ⟨_, q, c, rfl, hc⟩ := hs.sl_len
  have hs0 : Sat (sl (.slice q ob.length c) 5 1 (ob ++ esc (s.take 0)).length (bytesV (ob ++ esc (s.take 0))) :: F) w := by
    have e : ob ++ esc (s.take 0) = ob := by simp [esc]
    rw [e]; exact hs
  refine Ret.enter [(true, .slice q ob.length c), (true, str s)] _ Tryz.func49 rfl Tryz.ntmps49 rfl ?_
  refine zz ?_
  refine MC.loop (σ := Nat × Value) (fun x => [(0, true, x.2), (1, true, str s), (7, true, int ((s.length : Nat) : Int)), (8, true, int ((x.1 : Nat) : Int))])
    (fun x w => x.1 ≤ s.length ∧ Sat (sl x.2 5 1 (ob ++ esc (s.take x.1)).length (bytesV (ob ++ esc (s.take x.1))) :: F) w) (fun x => s.length - x.1) (0, .slice q ob.length c) zi ⟨Nat.zero_le _, hs0⟩ ?_
  clear hs hs0
  rintro ⟨i, vx⟩ w ⟨hi, hs⟩
  dsimp only [] at hi hs ⊢
  obtain ⟨_, q, c, rfl, hc⟩ := hs.sl_len
  have hel := esc_len (s.take i)
  rw [List.length_take] at hel
  rcases Nat.lt_or_ge i s.length with hlt | hge
  · obtain ⟨x, hx⟩ : ∃ x, s[i] = x := ⟨_, rfl⟩
    have hby : byteAt s ((i : Nat) : Int).toNat = ((x.toNat : Nat) : Int) := by
      unfold byteAt
      rw [Int.toNat_natCast, List.getElem?_eq_getElem hlt, hx]; rfl
    have htk : s.take (i + 1) = s.take i ++ [x] := by rw [List.take_succ_eq_append_getElem hlt, hx]
    obtain ⟨pre, hpre⟩ : ∃ pre, pre = ob ++ esc (s.take i) := ⟨_, rfl⟩
    have hpl : pre.length ≤ 3000000 := by rw [hpre, List.length_append]; omega
    rw [← hpre] at hs ⊢
    refine zz ?_
    rw [hby]
    refine MC.does true (does_buildL hs rfl rfl rfl (all1 rfl) rfl) rfl ?_; rintro _ w ⟨b1, rfl, hs⟩
    refine MC.does true (does_append hs rfl rfl (src_at rfl (all1 rfl)) (by omega) (by omega)) rfl ?_
    intro va w hs
    have hs := sl_eq (l := pre ++ [x]) hs.tail rfl (by simp) (by rw [bytesV_app]; rfl)
    obtain ⟨_, q2, c2, rfl, hc2⟩ := hs.sl_len
    by_cases h0 : x = 0
    · have h0n : ((x.toNat : Nat) : Int) = 0 := by rw [h0]; rfl
      have e1 : pre ++ [x] ++ [255] = ob ++ esc (s.take (i + 1)) := by rw [htk, esc_snoc, if_pos h0, hpre, h0]; simp
      refine zz ?_
      refine MC.does true (does_buildL hs rfl rfl rfl (all1 rfl) rfl) rfl ?_; rintro _ w ⟨b2, rfl, hs⟩
      refine MC.does true (does_append hs rfl rfl (src_at rfl (all1 rfl)) (by rw [List.length_append, List.length_singleton]; omega) (by rw [List.length_append, List.length_singleton]; omega)) rfl ?_
      intro va w hs
      have hs := sl_eq (l := pre ++ [x] ++ [255]) hs.tail rfl (by simp) (by rw [bytesV_app (pre ++ [x])]; rfl)
      refine zz ?_
      exact MC.again (i + 1, va) zi ⟨hlt, by show Sat (sl _ _ 1 (ob ++ esc (s.take (i + 1))).length (bytesV (ob ++ esc (s.take (i + 1)))) :: F) _; rw [← e1]; exact hs⟩ (by show s.length - (i + 1) < s.length - i; omega)
    · have h0n : ((x.toNat : Nat) : Int) ≠ 0 := fun h => h0 (UInt8.toNat_inj.1 (by have : (0 : UInt8).toNat = 0 := rfl; omega))
      have e1 : pre ++ [x] = ob ++ esc (s.take (i + 1)) := by rw [htk, esc_snoc, if_neg h0, hpre]; simp
      refine zz ?_
      exact MC.again (i + 1, .slice q2 (pre ++ [x]).length c2) zi ⟨hlt, by show Sat (sl _ _ 1 (ob ++ esc (s.take (i + 1))).length (bytesV (ob ++ esc (s.take (i + 1)))) :: F) _; rw [← e1]; exact hs⟩ (by show s.length - (i + 1) < s.length - i; omega)
  · obtain rfl : i = s.length := by omega
    rw [List.take_length] at hs hel ⊢
    obtain ⟨pre, hpre⟩ : ∃ pre, pre = ob ++ esc s := ⟨_, rfl⟩
    have hpl : pre.length ≤ 3000000 := by rw [hpre, List.length_append]; omega
    have e1 : pre ++ [0, 1] = ob ++ textK s := by rw [hpre]; simp [textK]
    rw [← hpre] at hs ⊢
    refine zz ?_
    refine MC.does true (does_buildL hs rfl rfl rfl (all1 rfl) rfl) rfl ?_; rintro _ w ⟨b1, rfl, hs⟩
    refine MC.does true (does_append hs rfl rfl (src_at rfl (all1 rfl)) (by omega) (by omega)) rfl ?_
    intro va w hs
    have hs := sl_eq (l := pre ++ [0, 1]) hs.tail rfl (by simp) (by rw [bytesV_app]; rfl)
    refine zz ?_
    refine MC.ret rfl ?_
    rw [← e1]
    exact hs
end Go.Proofs.YtkccjgllanpebaaGreatDoor

namespace Go.Proofs.YtkccjgllanpebaaGreatDoor
open Go Go.Sl Go.Tr
attribute [local irreducible] LooksAt
section
variable {F : List Assn} {z : Pw} {s : St} {mk : Option (Nat × St)} {w : World}
theorem mget_set {m : List (Int × Value)} {k : Int} {v : Value} : mget (mset m k v) k = some v := by
  induction m with
  | nil => simp [mset, mget]
  | cons x m ih =>
    obtain ⟨j, u⟩ := x
    unfold mset
    split
    · next h => simp [mget, h]
    · next h => simp [mget, h, ih]
theorem mget_set_ne {m : List (Int × Value)} {k j : Int} {v : Value} (h : j ≠ k) : mget (mset m k v) j = mget m j := by
  induction m with
  | nil => simp [mset, mget, Ne.symm h]
  | cons x m ih =>
    obtain ⟨i, u⟩ := x
    unfold mset
    split
    · next h' => subst h'; simp [mget, Ne.symm h]
    · next h' => simp [mget, ih]
theorem mget_del_ne {m : List (Int × Value)} {k j : Int} (h : j ≠ k) : mget (mdel m k) j = mget m j := by
  induction m with
  | nil => simp [mdel]
  | cons x m ih =>
    obtain ⟨i, u⟩ := x
    unfold mdel
    split
    · next h' => subst h'; simp [mget, Ne.symm h]
    · next h' => simp [mget, ih]
theorem kind_lt {E : En} {s : St} {k c : Nat} (h : s.kind E k = some c) : E.frm ≤ k ∧ ∃ h : k - E.frm < s.kinds.length, s.kinds[k - E.frm] = c := by
  unfold St.kind at h
  split at h
  · cases h
  · next hk => exact ⟨by omega, List.getElem?_eq_some_iff.1 h⟩
theorem kind_set {E : En} {s : St} {i c : Nat} {b : Nat → Bs} (hi : i < s.kinds.length) (k : Nat) : St.kind E ⟨s.kinds.set i c, b⟩ k = if k = E.frm + i then some c else s.kind E k := by
  unfold St.kind
  dsimp only []
  by_cases hk : k < E.frm
  · rw [if_pos hk, if_pos hk, if_neg (by omega)]
  · rw [if_neg hk, if_neg hk, List.getElem?_set]
    by_cases h2 : k = E.frm + i
    · rw [if_pos h2, if_pos (by omega), if_pos (by simpa using hi)]
    · rw [if_neg h2, if_neg (by omega)]
theorem kind_at {E : En} {s : St} {i : Nat} (hi : i < s.kinds.length) : s.kind E (E.frm + i) = some s.kinds[i] := by
  unfold St.kind
  rw [if_neg (by omega), Nat.add_sub_cancel_left, List.getElem?_eq_getElem hi]
theorem take_first {l : List Nat} {i : Nat} (h : l.findIdx? (· == 0) = some i) : ∃ hi : i < l.length, l[i] = 0 := by
  rw [List.findIdx?_eq_some_iff_getElem] at h
  obtain ⟨h1, h2, _⟩ := h
  exact ⟨h1, by simpa using h2⟩
theorem bufV_put {l : List Nat} {sp : List Value} {v : Value} {i : Nat} (c : Nat) (hi : i < l.length) (hv : v = int ((c : Nat) : Int)) : (bufV l ++ sp).set i v = bufV (l.set i c) ++ sp := by
  subst hv
  rw [List.set_append_left _ _ (by rw [bufV_length]; exact hi)]
  simp [bufV, List.map_set]
theorem Half.ok.put {x : Half} {E : En} {s : St} {pool : List (Value × Bs)} {H : Nat → Prop} {i : Nat} {v : Value} {b : Bs} (h : x.ok E s pool H) (hi : i < s.kinds.length) (hk : s.kinds[i] ≤ 1) (hb : b.length = 256) :
    Half.ok ⟨x.kb, x.kc, x.sp, x.mb, mset x.m ((E.frm + i : Nat) : Int) v⟩ E ⟨s.kinds.set i 1, upd s.by_ (E.frm + i) b⟩ (pool ++ [(v, b)]) H := by
  refine ⟨by simpa using h.pos, by simpa using h.few, by simpa using h.cap, by simpa using h.spl, fun c hc => ?_, fun k hk1 => ?_, fun k => ?_⟩
  · rcases List.mem_or_eq_of_mem_set hc with h' | h'
    · exact h.small c h'
    · omega
  · rw [kind_set hi] at hk1
    dsimp only [] at hk1 ⊢
    unfold upd
    by_cases hki : k = E.frm + i
    · rw [if_pos hki, hki]
      exact ⟨hb, v, mget_set, List.mem_append_right _ (List.mem_singleton.2 rfl)⟩
    · rw [if_neg hki] at hk1 ⊢
      obtain ⟨g1, u, g2, g3⟩ := h.has k hk1
      exact ⟨g1, u, by rw [mget_set_ne (by omega)]; exact g2, List.mem_append_left _ g3⟩
  · rw [kind_set hi, h.held k]
    by_cases hki : k = E.frm + i
    · rw [if_pos hki, hki, kind_at hi]
      simp; omega
    · rw [if_neg hki]
theorem Half.ok.kset {x : Half} {E : En} {s : St} {pool : List (Value × Bs)} {H : Nat → Prop} {i c : Nat} {m' : List (Int × Value)} (h : x.ok E s pool H) (hi : i < s.kinds.length) (hc : c = 0 ∧ s.kinds[i] = 1 ∨ c = 3 ∧ s.kinds[i] = 2) (hm : ∀ k : Nat, k ≠ E.frm + i → mget m' ((k : Nat) : Int) = mget x.m ((k : Nat) : Int)) :
    Half.ok ⟨x.kb, x.kc, x.sp, x.mb, m'⟩ E ⟨s.kinds.set i c, s.by_⟩ pool H := by
  refine ⟨by simpa using h.pos, by simpa using h.few, by simpa using h.cap, by simpa using h.spl, fun c' hc' => ?_, fun k hk1 => ?_, fun k => ?_⟩
  · rcases List.mem_or_eq_of_mem_set hc' with h' | h'
    · exact h.small c' h'
    · omega
  · rw [kind_set hi] at hk1
    dsimp only [] at hk1 ⊢
    by_cases hki : k = E.frm + i
    · rw [if_pos hki] at hk1
      have := Option.some.inj hk1
      omega
    · rw [if_neg hki] at hk1
      obtain ⟨g1, u, g2, g3⟩ := h.has k hk1
      exact ⟨g1, u, by rw [hm k hki]; exact g2, g3⟩
  · rw [kind_set hi, h.held k]
    by_cases hki : k = E.frm + i
    · rw [if_pos hki, hki, kind_at hi]
      simp; omega
    · rw [if_neg hki]
theorem rep_zeros : rep 256 [.int .u8 0] = bytesV zeros := by
  rw [rep_one]; unfold zeros bytesV; rw [List.map_replicate]; rfl
theorem zeros_len : zeros.length = 256 := List.length_replicate
theorem sl_zeros {b : Nat} {t : TypeId} {l : List Assn} {w : World} (hs : Sat (blk b (rep 256 [.int .u8 0]) t :: l) w) : Sat (sl (.slice (some ⟨b, 0, none⟩) 256 256) t 1 256 (bytesV zeros) :: l) w := by
  rw [rep_zeros] at hs
  exact Sat.sl_mk (xs := bytesV zeros) (spare := []) (n := 256) (c := 256) (size := 1) (by rw [List.append_nil]; exact hs) (Nat.le_refl _) (by rw [bytesV_length, zeros_len]) (by rw [bytesV_length, zeros_len]; rfl)
theorem take_spec (hs : Sat (pgr z s mk :: F) w) :
    Ret Tryz.prog 55 [ptr z.p] w (OutK (takeM z.E) z s mk F) := by
  obtain ⟨g, hg, hz, hs⟩ := pgr_open hs
  have hx := hg.x
  have hn := hx.few
  have hnone := pnone_spec (p := z.p) hs
  have hidx := index_spec (b := g.x.kb) hs rfl (by omega) hx.cap
  refine Ret.enter [(true, ptr z.p)] _ Tryz.func55 rfl Tryz.ntmps55 rfl ?_
  refine zz ?_
  refine zc rfl (hnone) ?_
  rintro _ w ⟨rfl, rfl⟩
  refine zz ?_
  refine zc rfl (hidx) ?_
  rintro _ w ⟨rfl, rfl⟩
  cases hf : s.kinds.findIdx? (· == 0) with
  | none =>
    dsimp only []
    refine zz ?_
    refine MC.ret rfl ?_
    exact .inr ⟨190, s, by decide, by unfold takeM; rw [hf]; exact ⟨rfl, rfl⟩, rfl, pgr_shut hg hz hs⟩
  | some i =>
    obtain ⟨hi, h0⟩ := take_first hf
    dsimp only []
    refine zz ?_
    refine MC.does true (does_store1 hs rfl rfl rfl (by rw [List.length_append, bufV_length]; omega)) rfl ?_; intro _ w hs
    rw [show 0 + ((i : Nat) : Int).toNat * 1 = i by rw [Int.toNat_natCast]; omega, bufV_put (v := .int .i64 1) 1 hi rfl] at hs
    refine zz ?_
    refine MC.draw hs [0, 1, 2, 3, 4, 5, 6, 7, 8, 9, 10, 11] (by rfl) ?_; intro w hs
    refine zd ?_
    refine MC.doesK true (does_makeSliceI 256 256 hs rfl rfl rfl rfl (Nat.le_refl _) (by omega) (by omega)) rfl rfl rfl ?_
    rintro _ w ⟨bb, rfl, hs⟩
    refine zh ?_
    have hs := sl_zeros hs
    refine zd ?_
    refine MC.doesK true (does_mapSet hs rfl rfl rfl) rfl rfl rfl ?_
    intro _ w hs
    refine zh ?_
    refine zd ?_
    refine zz ?_
    refine MC.ret rfl ?_
    have hput := hx.put (v := .slice (some ⟨bb, 0, none⟩) 256 256) (b := zeros) hi (by omega) zeros_len
    have hs := bods_add zeros_len (hs.pickF 5 [0, 4, 1, 2, 3] rfl rfl)
    refine .inl ⟨z.E.frm + i, _, by unfold takeM; rw [hf]; exact ⟨rfl, rfl⟩, by push_cast; rfl, ?_⟩
    exact pgr_shutL (hg.grow (fun y hy => List.mem_append_left _ hy) hput) hz List.length_set (hs.pickF 4 [1, 2, 3, 0] rfl rfl)
theorem kind_of {E : En} {s : St} (k : Nat) : (if k < E.frm then none else s.kinds[k - E.frm]?) = s.kind E k := rfl
theorem fresh_at {E : En} {s : St} {k c : Nat} (h : s.kind E k = some c) : ∃ (i : Nat) (hi : i < s.kinds.length), k = E.frm + i ∧ s.kinds[i] = c := by
  obtain ⟨h1, h2, h3⟩ := kind_lt h
  exact ⟨k - E.frm, h2, by omega, h3⟩
theorem kindI_ne {o : Option Nat} {c : Nat} (h : o ≠ some c) : kindI o ≠ ((c : Nat) : Int) := by
  cases o with
  | none => show (-1 : Int) ≠ _; omega
  | some d =>
    intro h'
    refine h (congrArg some ?_)
    have : ((d : Nat) : Int) = ((c : Nat) : Int) := h'
    omega
theorem pput_spec {vb : Value} {nb k : Nat} {b : Bs} (hs : Sat (pgr z s mk :: F) w) (hl : RdS F 1 vb nb (bytesV b)) (hk : k ≤ 100000) :
    Ret Tryz.prog 54 [ptr z.p, int ((k : Nat) : Int), vb] w (OutU (putM z.E k b) z s mk F) := by
  obtain ⟨g, hg, hz, hs⟩ := pgr_open hs
  have hx := hg.x
  have hn := hx.few
  have hnone := pnone_spec (p := z.p) hs
  have hki := kind_spec (p := z.p) (b := g.x.kb) (l := s.kinds) hs rfl hn k hk
  obtain ⟨q, c, rfl, hc, hlen⟩ := hl.shape
  obtain rfl : nb = b.length := by simpa using hlen.symm
  refine Ret.enter [(true, ptr z.p), (true, int ((k : Nat) : Int)), (true, .slice q b.length c)] _ Tryz.func54 rfl Tryz.ntmps54 rfl ?_
  refine zz ?_
  refine zc rfl (hnone) ?_
  rintro _ w ⟨rfl, rfl⟩
  refine zz ?_
  refine zc rfl (hki) ?_
  rintro _ w ⟨rfl, hs⟩
  rw [kind_of]
  by_cases h1 : s.kind z.E k = some 1
  · rw [h1]
    dsimp only [kindI]
    by_cases h2 : b.length = 256
    · refine zz ?_
      refine MC.draw hs [0, 1, 2, 3, 4, 5, 6, 7] (by rfl) ?_; intro w hs
      refine zd ?_
      refine MC.doesK true (does_call rfl (bclone_spec hs hl.up (by omega))) rfl rfl rfl ?_
      intro vn w hs
      refine zh ?_
      rw [h2] at hs
      refine zd ?_
      refine MC.doesK true (does_mapSet hs rfl rfl rfl) rfl rfl rfl ?_
      intro _ w hs
      refine zh ?_
      refine zd ?_
      refine zz ?_
      refine MC.ret rfl ?_
      obtain ⟨i, hi, rfl, hi1⟩ := fresh_at h1
      have hput := hx.put (v := vn) (b := b) hi (by omega) h2
      have hs := bods_add h2 (hs.pickF 5 [0, 4, 1, 2, 3] rfl rfl)
      have e : s.kinds.set i 1 = s.kinds := by rw [← hi1]; exact List.set_getElem_self hi
      rw [e] at hput
      refine .inl ⟨(), _, by unfold putM; rw [if_pos h1, if_pos h2]; exact ⟨rfl, rfl⟩, rfl, ?_⟩
      exact pgr_shutL (hg.grow (fun y hy => List.mem_append_left _ hy) hput) hz rfl (hs.pickF 4 [1, 2, 3, 0] rfl rfl)
    · refine zz ?_
      refine MC.ret rfl ?_
      exact .inr ⟨2, s, by decide, by unfold putM; rw [if_pos h1, if_neg h2]; exact ⟨rfl, rfl⟩, rfl, pgr_shut hg hz hs⟩
  · have h2 := kindI_ne h1
    refine zz ?_
    refine MC.ret rfl ?_
    exact .inr ⟨240, s, by decide, by unfold putM; rw [if_neg h1]; exact ⟨rfl, rfl⟩, rfl, pgr_shut hg hz hs⟩
def OutB (m : M Bs) (z : Pw) (s : St) (mk : Option (Nat × St)) (F : List Assn) : Value → World → Prop := Out m s (fun b s' v w => ∃ vb, v = .tuple #[vb, int 0] ∧ b.length = 256 ∧ Sat (sl vb 5 1 b.length (bytesV b) :: pgr z s' mk :: F) w) (fun e s' v w => ∃ vb, v = .tuple #[vb, int e] ∧ Sat (pgr z s' mk :: F) w)
theorem pget_spec {k : Nat} (hs : Sat (pgr z s mk :: F) w) (hk : k ≤ 100000) :
    Ret Tryz.prog 110 [ptr z.p, int ((k : Nat) : Int)] w (OutB (getM z.E k) z s mk F) := by
  obtain ⟨g, hg, hz, hs⟩ := pgr_open hs
  have hx := hg.x
  have hn := hx.few
  have hnone := pnone_spec (p := z.p) hs
  have hki := kind_spec (p := z.p) (b := g.x.kb) (l := s.kinds) hs rfl hn k hk
  refine Ret.enter [(true, ptr z.p), (true, int ((k : Nat) : Int))] _ Tryz.func110 rfl Tryz.ntmps110 rfl ?_
  refine zz ?_
  refine zc rfl (hnone) ?_
  rintro _ w ⟨rfl, rfl⟩
  refine zz ?_
  refine zc rfl (hki) ?_
  rintro _ w ⟨rfl, hs⟩
  rw [kind_of]
  by_cases h1 : s.kind z.E k = some 1
  · rw [h1]
    dsimp only [kindI]
    obtain ⟨g1, u, g2, g3⟩ := hx.has k h1
    refine zz ?_
    refine MC.pure (f := true) (po_bin rfl rfl (br_add rfl)) rfl ?_
    refine zz ?_
    refine MC.does true (does_store1 hs rfl rfl rfl (by first | decide | (simp; done) | (simp; omega))) rfl ?_; intro _ w hs
    refine zz ?_
    refine MC.la true (la_lookup hs rfl rfl g2) rfl ?_
    have hrd := bods_rd hs.tail.tail.tail g3
    dsimp only [] at hrd
    refine zc rfl (bclone_spec hs hrd.up (by omega)) ?_
    intro vn w hs
    refine zz ?_
    refine MC.ret rfl ?_
    refine .inl ⟨s.by_ k, s, ⟨rfl, by rw [if_pos h1]⟩, vn, rfl, g1, ?_⟩
    have hs := hs.pickF 8 [1, 2, 3, 4, 5, 6, 7, 0] rfl rfl
    exact (pgr_shutL (hg.grow (fun _ h => h) hx) hz rfl hs).swap
  · by_cases h2 : s.kind z.E k = some 2
    · rw [h2]
      dsimp only [kindI]
      obtain ⟨hk1, hk2, _⟩ := kind_lt h2
      have hH : z.H k := (hx.held k).2 (.inl h2)
      have hkd := hz.fits k hH
      have hs := hs.pickF 6 [4, 5, 0, 1, 2, 3] rfl rfl
      have hget := cget_spec (q := z.q) hs hz.dev hz.few hkd hH (hz.sec k hH)
      refine zz ?_
      refine zc rfl (hget) ?_
      rintro _ w (⟨vb, rfl, hs⟩ | ⟨hf, vb, rfl, hs⟩)
      · refine zz ?_
        have hs := hs.pickF 2 [1, 0] rfl rfl
        have hlv := leave_spec (q := z.q) hs
        refine zc rfl (hlv) ?_
        rintro _ w ⟨rfl, hs⟩
        refine zz ?_
        refine MC.pure (f := true) (po_bin rfl rfl (br_add rfl)) rfl ?_
        refine zz ?_
        refine MC.does true (does_store1 hs rfl rfl rfl (by first | decide | (simp; done) | (simp; omega))) rfl ?_; intro _ w hs
        refine zz ?_
        refine MC.ret rfl ?_
        have hsl : (z.E.sec k).length = 256 := by rw [← hz.sec k hH]; exact get_length hz.dev hkd
        refine .inl ⟨z.E.sec k, s, ⟨rfl, by rw [if_neg h1, if_pos h2]; exact .inl rfl⟩, vb, rfl, hsl, ?_⟩
        rw [hsl]
        have hs := hs.pickF 8 [3, 4, 5, 6, 0, 2, 7, 1] rfl rfl
        exact (pgr_shutL (hg.grow (fun _ h => h) hx) hz rfl hs).swap
      · refine zz ?_
        refine MC.ret rfl ?_
        refine .inr ⟨150, s, by decide, ⟨rfl, by rw [if_neg h1, if_pos h2]; exact .inr ⟨hz.down.2 hf, rfl⟩⟩, _, rfl, ?_⟩
        exact pgr_shut hg hz (hs.pickF 6 [2, 3, 4, 5, 0, 1] rfl rfl)
    · have h3 := kindI_ne h1
      have h4 := kindI_ne h2
      refine zz ?_
      refine MC.ret rfl ?_
      exact .inr ⟨240, s, by decide, ⟨rfl, by rw [if_neg h1, if_neg h2]⟩, _, rfl, pgr_shut hg hz hs⟩
theorem drop_spec {k : Nat} (hs : Sat (pgr z s mk :: F) w) (hk : k ≤ 100000) :
    Ret Tryz.prog 56 [ptr z.p, int ((k : Nat) : Int)] w (OutU (dropM z.E k) z s mk F) := by
  obtain ⟨g, hg, hz, hs⟩ := pgr_open hs
  have hx := hg.x
  have hn := hx.few
  have hnone := pnone_spec (p := z.p) hs
  have hki := kind_spec (p := z.p) (b := g.x.kb) (l := s.kinds) hs rfl hn k hk
  refine Ret.enter [(true, ptr z.p), (true, int ((k : Nat) : Int))] _ Tryz.func56 rfl Tryz.ntmps56 rfl ?_
  refine zz ?_
  refine zc rfl (hnone) ?_
  rintro _ w ⟨rfl, rfl⟩
  refine zz ?_
  refine zc rfl (hki) ?_
  rintro _ w ⟨rfl, hs⟩
  rw [kind_of]
  by_cases h1 : s.kind z.E k = some 1
  · rw [h1]
    dsimp only [kindI]
    obtain ⟨i, hi, rfl, hi1⟩ := fresh_at h1
    refine zz ?_
    refine MC.draw hs [0, 1, 2, 3, 4, 5, 6, 7, 8, 9, 10, 11] (by rfl) ?_; intro w hs
    refine zd ?_
    refine MC.doesK true (does_store1 hs rfl rfl rfl (by rw [List.length_append, bufV_length]; omega)) rfl rfl rfl ?_; intro _ w hs
    refine zh ?_
    rw [show 0 + (((z.E.frm + i : Nat) : Int) - ((z.E.frm : Nat) : Int)).toNat * 1 = i by omega, bufV_put (v := .int .i64 0) 0 hi rfl] at hs
    refine zd ?_
    refine zz ?_
    refine MC.does true (does_mapDel (t := 162) hs rfl rfl rfl) rfl ?_
    intro _ w hs
    refine zz ?_
    refine MC.ret rfl ?_
    have hk2 := hx.kset (m' := mdel g.x.m ((z.E.frm + i : Nat) : Int)) hi (.inl ⟨rfl, hi1⟩) fun k hk => mget_del_ne (by omega)
    refine .inl ⟨(), _, by unfold dropM; rw [if_pos h1]; exact ⟨rfl, rfl⟩, rfl, ?_⟩
    rw [Nat.add_sub_cancel_left]
    exact pgr_shutL (hg.grow (fun _ h => h) hk2) hz List.length_set hs
  · by_cases h2 : s.kind z.E k = some 2
    · rw [h2]
      dsimp only [kindI]
      obtain ⟨i, hi, rfl, hi1⟩ := fresh_at h2
      refine zz ?_
      refine MC.draw hs [0, 1, 2, 3, 4, 5, 6, 7, 8, 9, 10, 11] (by rfl) ?_; intro w hs
      refine zd ?_
      refine MC.doesK true (does_store1 hs rfl rfl rfl (by rw [List.length_append, bufV_length]; omega)) rfl rfl rfl ?_; intro _ w hs
      refine zh ?_
      rw [show 0 + (((z.E.frm + i : Nat) : Int) - ((z.E.frm : Nat) : Int)).toNat * 1 = i by omega, bufV_put (v := .int .i64 3) 3 hi rfl] at hs
      refine zd ?_
      refine zz ?_
      refine MC.ret rfl ?_
      have hk2 := hx.kset (m' := g.x.m) hi (.inr ⟨rfl, hi1⟩) fun k hk => rfl
      refine .inl ⟨(), _, by unfold dropM; rw [if_neg h1, if_pos h2]; exact ⟨rfl, rfl⟩, rfl, ?_⟩
      rw [Nat.add_sub_cancel_left]
      exact pgr_shutL (hg.grow (fun _ h => h) hk2) hz List.length_set hs
    · have h3 := kindI_ne h1
      have h4 := kindI_ne h2
      refine zz ?_
      refine MC.ret rfl ?_
      exact .inr ⟨240, s, by decide, by unfold dropM; rw [if_neg h1, if_neg h2]; exact ⟨rfl, rfl⟩, rfl, pgr_shut hg hz hs⟩
end
end Go.Proofs.YtkccjgllanpebaaGreatDoor
