/-
  The laws' helpers for roots: Ints, fit; the plain law of what a sector reads as | Pages: clones, what one says of a pager; none, kind | A root's two sectors, the first two of a device of 400: what a save leaves, what a loss leaves
-/
import Derived.Test.YtjlofdodiaklaaaGreatYaq
import Derived.Test.YtjlofdodiaklaaaGreatYag
import Derived.Test.YtjlofdodiaklaaaGreatYaa
set_option maxHeartbeats 1000000
set_option linter.unusedVariables false
set_option linter.unusedSimpArgs false
namespace Go.Proofs.YtjlofdodiaklaaaGreat
open Go Go.Sl
attribute [local irreducible] LooksAt

theorem byteOf_toNat (n : Int) : ((byteOf n).toNat : Int) = n % 256 := by
  have h0 : 0 ≤ n % 256 := Int.emod_nonneg _ (by decide)
  have h1 : n % 256 < 256 := Int.emod_lt_of_pos _ (by decide)
  rw [byteOf, UInt8.toNat_ofNat']; omega
theorem get4_le4 (pre rest : List UInt8) (n : Int) (k : Nat) (hk : pre.length = k) (h0 : 0 ≤ n) (h1 : n ≤ 4294967295) : get4 (pre ++ (le4 n ++ rest)) k = n := by
  subst hk
  have e : ∀ j, j < 4 → (pre ++ (le4 n ++ rest)).getD (pre.length + j) 0 = (le4 n).getD j 0 := fun j hj => by
    simp only [List.getD_eq_getElem?_getD]
    rw [List.getElem?_append_right (by omega), Nat.add_sub_cancel_left, List.getElem?_append_left (by simp [le4]; omega)]
  have e0 := e 0 (by decide)
  rw [Nat.add_zero] at e0
  simp only [get4, e0, e 1 (by decide), e 2 (by decide), e 3 (by decide)]
  have b0 := byteOf_toNat n
  have b1 := byteOf_toNat (n / 256)
  have b2 := byteOf_toNat (n / 65536)
  have b3 := byteOf_toNat (n / 16777216)
  simp only [le4, List.getD_cons_zero, List.getD_cons_succ, b0, b1, b2, b3]
  omega
theorem sectorB_eq (which epoch : Int) (f : List Int) : ∃ P, sectorB which epoch f = le4 epoch ++ ([byteOf which, byteOf f.length] ++ (f.flatMap le4 ++ P)) := by
  refine ⟨many (248 - (headB which epoch f).length) 0 ++ [(sumOf (bodyB which epoch f) : Int), epoch].flatMap le4, ?_⟩
  generalize h : [(sumOf (bodyB which epoch f) : Int), epoch].flatMap le4 = Z
  unfold sectorB
  rw [h]
  simp only [bodyB, headB, List.append_assoc]
theorem good_sector {which epoch : Int} {f : List Int} (hf : f.length ≤ 40) (hfit : ∀ n ∈ f, 0 ≤ n ∧ n ≤ 2147483647) (h1 : 1 ≤ epoch) (h2 : epoch ≤ 2147483647) :
    get4 (sectorB which epoch f) 0 = epoch ∧ nOf (sectorB which epoch f) = f.length ∧ fieldsOf (sectorB which epoch f) f.length = f := by
  obtain ⟨P, hP⟩ := sectorB_eq which epoch f
  refine ⟨?_, ?_, ?_⟩
  · rw [hP]
    have := get4_le4 [] ([byteOf which, byteOf f.length] ++ (f.flatMap le4 ++ P)) epoch 0 rfl (by omega) (by omega)
    rwa [List.nil_append] at this
  · rw [hP]
    have hb := byteOf_toNat (f.length : Int)
    show (byteOf (f.length : Int)).toNat = f.length
    omega
  · apply List.ext_getElem
    · simp [fieldsOf_length]
    intro i h3 h4
    have hi : i < f.length := h4
    simp only [fieldsOf, List.getElem_map, List.getElem_range]
    have e : f.flatMap le4 = (f.take i).flatMap le4 ++ (le4 f[i] ++ (f.drop (i + 1)).flatMap le4) := by
      conv => lhs; rw [← List.take_append_drop i f, List.drop_eq_getElem_cons hi]
      rw [List.flatMap_append, List.flatMap_cons]
    have e2 : sectorB which epoch f = (le4 epoch ++ ([byteOf which, byteOf f.length] ++ (f.take i).flatMap le4)) ++ (le4 f[i] ++ ((f.drop (i + 1)).flatMap le4 ++ P)) := by
      rw [hP, e]; simp only [List.append_assoc]
    rw [e2]
    have hm := hfit _ (List.getElem_mem hi)
    refine get4_le4 _ _ _ _ ?_ hm.1 (by omega)
    simp only [List.length_append, le4_length, le4_all, List.length_cons, List.length_nil, List.length_take]
    omega
theorem read_sector {which epoch : Int} {f : List Int} (hf : f.length ≤ 40) (hfit : ∀ n ∈ f, 0 ≤ n ∧ n ≤ 2147483647) (h1 : 1 ≤ epoch) (h2 : epoch ≤ 2147483647) : readS which (sectorB which epoch f) = ⟨true, epoch, f⟩ := by
  obtain ⟨e1, e2, e3⟩ := good_sector (which := which) hf hfit h1 h2
  have hg : Good which (sectorB which epoch f) := ⟨by omega, by omega, by omega, by rw [e2, e3]; exact hfit, by rw [e2, e3, e1]⟩
  rw [readS, if_pos hg, e2, e3, e1]
theorem get4_zero (k n : Nat) : get4 (many n 0) k = 0 := by
  have e : ∀ j, (many n 0).getD j 0 = 0 := fun j => by
    simp only [many, List.getD_eq_getElem?_getD, List.getElem?_replicate]
    split <;> rfl
  simp only [get4, e]
  decide
theorem read_zero (which : Int) (n : Nat) : readS which (many n 0) = Sv.no := by
  have : ¬ Good which (many n 0) := fun h => by have := h.1; rw [get4_zero] at this; omega
  rw [readS, if_neg this]
end Go.Proofs.YtjlofdodiaklaaaGreat

namespace Go.Proofs.YtjlofdodiaklaaaGreat
open Go Go.Sl Go.Tr
attribute [local irreducible] LooksAt

theorem bclone_spec {F : List Assn} {vb : Value} {n : Nat} {l : Bs} {w : World} (hs : Sat F w) (hl : RdS F 1 vb n (bytesV l)) (hn : l.length ≤ 1000000) :
    Ret Tryz.prog 71 [vb] w fun v w' => Sat (sl v 5 1 l.length (bytesV l) :: F) w' := by
  obtain ⟨q, c, rfl, hc, hlen⟩ := hl.shape
  obtain rfl : n = l.length := by simpa using hlen.symm
  cases q with
  | none =>
    have h0 : l.length = 0 := by
      rcases Nat.eq_zero_or_pos l.length with h | h
      · exact h
      · obtain ⟨b, o, h', _⟩ := hl.at_ (by omega); cases h'
    have hl0 : l = [] := List.eq_nil_of_length_eq_zero h0
    subst hl0
    refine Ret.enter [(true, .slice none 0 c)] _ Tryz.func71 rfl Tryz.ntmps71 rfl ?_
    refine zz ?_
    refine MC.pure (f := true) (po_bin rfl rfl br_slice_nil) rfl ?_
    refine zz ?_
    refine MC.ret rfl ?_
    exact hs.sl_nil _ _
  | some a =>
    refine Ret.enter [(true, .slice (some a) l.length c)] _ Tryz.func71 rfl Tryz.ntmps71 rfl ?_
    refine zz ?_
    refine MC.pure (f := true) (po_bin rfl rfl br_slice_nil) rfl ?_
    refine zz ?_
    refine MC.does true (does_buildSlice0 hs) rfl ?_
    rintro _ w ⟨b1, rfl, hs⟩
    have hs := Sat.sl_mk (xs := []) (spare := []) (n := 0) (c := 0) (size := 1) hs (Nat.le_refl _) rfl rfl
    refine zz ?_
    refine MC.does true (does_append hs rfl rfl (RdS.src hl (bytesV_one _)) (by omega) (by omega)) rfl ?_
    intro vn w hs
    rw [Nat.zero_add, List.nil_append] at hs
    refine zz ?_
    refine MC.ret rfl ?_
    exact hs
theorem bufV_one (l : List Nat) : ∀ u ∈ bufV l, u.oneCell' = true := fun u hu => by
  obtain ⟨i, _, rfl⟩ := List.mem_map.1 hu; rfl
theorem iclone_spec {F : List Assn} {G : List Value → List Assn} {b n c : Nat} {l : List Nat} {sp : List Value} {w : World} (hs : Sat F w) [hA : At F b (bufV l ++ sp) 3 G] (hl : l.length = n) (hn : n ≤ 100000) (hc : n ≤ c) :
    Ret Tryz.prog 57 [.slice (some ⟨b, 0, none⟩) n c] w fun v w' => Sat (sl v 3 1 n (bufV l) :: F) w' := by
  have hrd : RdS F 1 (.slice (some ⟨b, 0, none⟩) n c) n (bufV l) := by
    refine ⟨_, _, rfl, hc, by simp [bufV, hl], fun _ => ⟨b, 0, rfl, fun w hw j u hu => ?_⟩⟩
    refine (Rd.of_at (h := hA)) w hw j u ?_
    rw [List.getElem?_append_left]
    · exact hu
    · rcases Nat.lt_or_ge j (bufV l).length with h | h
      · exact h
      · rw [List.getElem?_eq_none h] at hu; cases hu
  refine Ret.enter [(true, .slice (some ⟨b, 0, none⟩) n c)] _ Tryz.func57 rfl Tryz.ntmps57 rfl ?_
  refine zz ?_
  refine MC.pure (f := true) (po_bin rfl rfl br_slice_nil) rfl ?_
  refine zz ?_
  refine MC.does true (does_buildSlice0 hs) rfl ?_
  rintro _ w ⟨b1, rfl, hs⟩
  have hs := Sat.sl_mk (xs := []) (spare := []) (n := 0) (c := 0) (size := 1) hs (Nat.le_refl _) rfl rfl
  refine zz ?_
  refine MC.does true (does_append hs rfl rfl (RdS.src hrd (bufV_one _)) (by omega) (by omega)) rfl ?_
  intro vn w hs
  rw [Nat.zero_add, List.nil_append] at hs
  refine zz ?_
  refine MC.ret rfl ?_
  exact hs
theorem index_spec {F : List Assn} {G : List Value → List Assn} {b n c : Nat} {l : List Nat} {sp : List Value} {w : World} (hs : Sat F w) [hA : At F b (bufV l ++ sp) 3 G] (hl : l.length = n) (hn : n ≤ 100000) (hc : n ≤ c) :
    Ret Tryz.prog 88 [.slice (some ⟨b, 0, none⟩) n c, int 0] w fun v w' => v = int (match l.findIdx? (· == 0) with
      | some i => ((i : Nat) : Int)
      | none => -1) ∧ w' = w := by
  refine Ret.enter [(true, .slice (some ⟨b, 0, none⟩) n c), (true, int 0)] _ Tryz.func88 rfl Tryz.ntmps88 rfl ?_
  refine zz ?_
  refine MC.loop (σ := Nat) (fun i => [(0, true, .slice (some ⟨b, 0, none⟩) n c), (1, true, int 0), (7, true, int ((n : Nat) : Int)), (8, true, int ((i : Nat) : Int))]) (fun i w' => i ≤ n ∧ (∀ (j : Nat) (h : j < l.length), j < i → l[j] ≠ 0) ∧ w' = w) (fun i => n - i) 0 (by repeat (first | exact trivial | refine ⟨rfl, ?_⟩)) ⟨Nat.zero_le _, fun j _ h => by omega, rfl⟩ ?_
  rintro i w' ⟨hi, hno, rfl⟩
  rcases Nat.lt_or_ge i n with hlt | hge
  · have h0 : (bufV l ++ sp)[0 + ((i : Nat) : Int).toNat * 1]? = some (int ((l[i]'(by omega) : Nat) : Int)) := by
      rw [Int.toNat_natCast, Nat.zero_add, Nat.mul_one, List.getElem?_append_left (by rw [bufV_length]; omega)]
      simp [bufV, hl, hlt]
    refine zz ?_
    refine MC.la true (la_load1 hs rfl h0) rfl ?_
    by_cases hk : l[i]'(by omega) = 0
    · rw [hk]
      refine zz ?_
      refine MC.ret rfl ?_
      refine ⟨?_, rfl⟩
      have : l.findIdx? (· == 0) = some i := by
        rw [List.findIdx?_eq_some_iff_getElem]
        exact ⟨by omega, by simp [hk], fun j hj => by simpa using hno j (by omega) hj⟩
      rw [this]; rfl
    · refine zz ?_
      exact MC.again (i + 1) (by repeat (first | exact trivial | refine ⟨rfl, ?_⟩)) ⟨hlt, fun j h hj => by
        rcases Nat.lt_or_ge j i with h' | h'
        · exact hno j h h'
        · obtain rfl : j = i := by omega
          exact hk, rfl⟩ (by omega)
  · obtain rfl : i = n := by omega
    refine zz ?_
    refine MC.ret rfl ?_
    refine ⟨?_, rfl⟩
    have : l.findIdx? (· == 0) = none := by
      rw [List.findIdx?_eq_none_iff]
      intro x hx
      obtain ⟨j, hj, rfl⟩ := List.mem_iff_getElem.1 hx
      simpa using hno j hj (by omega)
    rw [this]; rfl
structure Half where
  kb : Nat
  kc : Nat
  sp : List Value
  mb : Nat
  m : List (Int × Value)
abbrev Half.kv (x : Half) (s : St) : Value := .slice (some ⟨x.kb, 0, none⟩) s.kinds.length x.kc
abbrev Half.kA (x : Half) (s : St) : Assn := blk x.kb (bufV s.kinds ++ x.sp) 3
structure Half.ok (x : Half) (E : En) (s : St) (pool : List (Value × Bs)) (H : Nat → Prop) : Prop where
  pos : 0 < s.kinds.length
  few : E.frm + s.kinds.length ≤ 100000
  cap : s.kinds.length ≤ x.kc
  spl : s.kinds.length + x.sp.length = x.kc
  small : ∀ c ∈ s.kinds, c ≤ 3
  has : ∀ k, s.kind E k = some 1 → (s.by_ k).length = 256 ∧ ∃ v, mget x.m ((k : Nat) : Int) = some v ∧ (v, s.by_ k) ∈ pool
  held : ∀ k, H k ↔ s.kind E k = some 2 ∨ s.kind E k = some 3
theorem Half.ok.mono {x : Half} {E : En} {s : St} {pool pool' : List (Value × Bs)} {H : Nat → Prop} (h : x.ok E s pool H) (hp : ∀ y ∈ pool, y ∈ pool') : x.ok E s pool' H :=
  ⟨h.pos, h.few, h.cap, h.spl, h.small, fun k hk => by
      obtain ⟨h1, v, h2, h3⟩ := h.has k hk
      exact ⟨h1, v, h2, hp _ h3⟩, h.held⟩
abbrev pblk (p pd q : Nat) (frm : Nat) (kv : Value) (mb : Nat) (round touched : Int) : Assn := blk p [ptr pd, ptr q, int ((frm : Nat) : Int), kv, .map (some mb), int round, int touched] 76
def mkA (p : Nat) (round : Int) (mk : Option (Nat × St)) (y : Half) : Assn := match mk with
  | none => star []
  | some (m, s0) => star [blk m [ptr p, int round, y.kv s0, .map (some y.mb)] 128, y.kA s0, mp y.mb y.m]
structure Pg where
  x : Half
  y : Half
  round : Int
  touched : Int
  pool : List (Value × Bs)
structure Pg.ok (g : Pg) (E : En) (H : Nat → Prop) (s : St) (mk : Option (Nat × St)) : Prop where
  x : g.x.ok E s g.pool H
  y : match mk with
    | none => True
    | some (_, s0) => g.y.ok E s0 g.pool H
theorem Pg.ok.grow {g : Pg} {E : En} {H : Nat → Prop} {s s' : St} {mk : Option (Nat × St)} {pool' : List (Value × Bs)} {x' : Half} {r t : Int} (h : g.ok E H s mk) (hp : ∀ y ∈ g.pool, y ∈ pool') (hx : x'.ok E s' pool' H) : (⟨x', g.y, r, t, pool'⟩ : Pg).ok E H s' mk :=
  ⟨hx, by have := h.y; cases mk with
    | none => trivial
    | some z => exact Half.ok.mono this hp⟩
structure Pw where
  p : Nat
  q : Nat
  pd : Nat
  D : Dev
  E : En
  H : Nat → Prop
structure Pw.ok (z : Pw) : Prop where
  dev : z.D.ok
  few : z.D.O.length ≤ 100000
  fits : ∀ k, z.H k → k < z.D.S.length
  sec : ∀ k, z.H k → z.D.get k = z.E.sec k
  down : z.E.down = true ↔ z.D.fuse = 1
def pgr (z : Pw) (s : St) (mk : Option (Nat × St)) : Assn := Sl.ex fun g : {g : Pg // g.ok z.E z.H s mk ∧ z.ok} =>
  star [pblk z.p z.pd z.q z.E.frm (g.1.x.kv s) g.1.x.mb g.1.round g.1.touched, g.1.x.kA s, mp g.1.x.mb g.1.x.m, bods 5 g.1.pool, cach z.q z.pd z.E.sec z.H none, devr z.pd z.D, mkA z.p g.1.round mk g.1.y]
section
variable {F : List Assn} {z : Pw} {s : St} {mk : Option (Nat × St)} {w : World}
theorem pgr_open (hs : Sat (pgr z s mk :: F) w) : ∃ g : Pg, g.ok z.E z.H s mk ∧ z.ok ∧ Sat (pblk z.p z.pd z.q z.E.frm (g.x.kv s) g.x.mb g.round g.touched :: g.x.kA s :: mp g.x.mb g.x.m :: bods 5 g.pool :: cach z.q z.pd z.E.sec z.H none :: devr z.pd z.D :: mkA z.p g.round mk g.y :: F) w := by
  obtain ⟨g, hs⟩ := Sat.ex_iff.1 hs
  exact ⟨g.1, g.2.1, g.2.2, hs.unstar⟩
theorem pgr_shut {g : Pg} (hg : g.ok z.E z.H s mk) (hz : z.ok) (hs : Sat (pblk z.p z.pd z.q z.E.frm (g.x.kv s) g.x.mb g.round g.touched :: g.x.kA s :: mp g.x.mb g.x.m :: bods 5 g.pool :: cach z.q z.pd z.E.sec z.H none :: devr z.pd z.D :: mkA z.p g.round mk g.y :: F) w) : Sat (pgr z s mk :: F) w :=
  Sat.ex_iff.2 ⟨⟨g, hg, hz⟩, Sat.restar (l := [_, _, _, _, _, _, _]) hs⟩
end
theorem pgr_shutL {F : List Assn} {z : Pw} {s : St} {mk : Option (Nat × St)} {w : World} {n kb kc mb : Nat} {sp : List Value} {m : List (Int × Value)} {y : Half} {r t : Int} {pool : List (Value × Bs)} (hg : (⟨⟨kb, kc, sp, mb, m⟩, y, r, t, pool⟩ : Pg).ok z.E z.H s mk) (hz : z.ok) (hl : s.kinds.length = n) (hs : Sat (pblk z.p z.pd z.q z.E.frm (.slice (some ⟨kb, 0, none⟩) n kc) mb r t :: blk kb (bufV s.kinds ++ sp) 3 :: mp mb m :: bods 5 pool :: cach z.q z.pd z.E.sec z.H none :: devr z.pd z.D :: mkA z.p r mk y :: F) w) : Sat (pgr z s mk :: F) w := by
  subst hl
  exact pgr_shut hg hz hs
theorem bods_add {F : List Assn} {w : World} {t : TypeId} {v : Value} {n : Nat} {b : Bs} {l : List (Value × Bs)} (hb : b.length = n) (h : Sat (sl v t 1 n (bytesV b) :: bods t l :: F) w) : Sat (bods t (l ++ [(v, b)]) :: F) w := by
  subst hb
  exact bods_snoc h
def Out {α : Type} (m : M α) (s : St) (ok : α → St → Value → World → Prop) (er : Int → St → Value → World → Prop) (v : Value) (w : World) : Prop :=
  (∃ a s', m s (.ok a) s' ∧ ok a s' v w) ∨ (∃ e s', e ≠ 0 ∧ m s (.err e) s' ∧ er e s' v w)
abbrev OutK (m : M Nat) (z : Pw) (s : St) (mk : Option (Nat × St)) (F : List Assn) : Value → World → Prop := Out m s (fun k s' v w => v = .tuple #[int ((k : Nat) : Int), int 0] ∧ Sat (pgr z s' mk :: F) w) (fun e s' v w => v = .tuple #[int 0, int e] ∧ Sat (pgr z s' mk :: F) w)
abbrev OutU (m : M Unit) (z : Pw) (s : St) (mk : Option (Nat × St)) (F : List Assn) : Value → World → Prop := Out m s (fun _ s' v w => v = int 0 ∧ Sat (pgr z s' mk :: F) w) (fun e s' v w => v = int e ∧ Sat (pgr z s' mk :: F) w)
theorem pnone_spec {F : List Assn} {G : List Value → List Assn} {p pd : Nat} {cs : List Value} {w : World} (hs : Sat F w) [hA : At F p (ptr pd :: cs) 76 G] :
    Ret Tryz.prog 41 [ptr p] w fun v w' => v = bool false ∧ w' = w := by
  refine Ret.enter [(true, ptr p)] _ Tryz.func41 rfl Tryz.ntmps41 rfl ?_
  refine zz ?_
  refine MC.ret rfl ?_
  exact ⟨rfl, rfl⟩
def kindI : Option Nat → Int
  | none => -1
  | some c => ((c : Nat) : Int)
theorem kind_spec {F : List Assn} {G G2 : List Value → List Assn} {p frm b n c : Nat} {a1 a2 a3 a4 a5 : Value} {l : List Nat} {sp : List Value} {w : World} (hs : Sat F w) [hA : At F p [a1, a2, int ((frm : Nat) : Int), .slice (some ⟨b, 0, none⟩) n c, a3, a4, a5] 76 G] [hB : At F b (bufV l ++ sp) 3 G2] (hl : l.length = n) (hn : frm + n ≤ 100000) (k : Nat) (hk : k ≤ 100000) :
    Ret Tryz.prog 25 [ptr p, int ((k : Nat) : Int)] w fun v w' => v = int (kindI (if k < frm then none else l[k - frm]?)) ∧ Sat F w' := by
  refine Ret.enter [(true, ptr p), (true, int ((k : Nat) : Int))] _ Tryz.func25 rfl Tryz.ntmps25 rfl ?_
  refine zz ?_
  refine MC.draw hs [0, 1, 2, 3, 4, 5, 6, 7, 8, 9, 10, 11, 12, 13, 14, 15, 16, 17, 18, 19] (by rfl) ?_; intro w hs
  by_cases h1 : k < frm
  · refine zd ?_
    refine MC.ret rfl ?_
    rw [if_pos h1]
    exact ⟨rfl, hs⟩
  · refine zd ?_
    rw [if_neg h1]
    by_cases h2 : frm + n ≤ k
    · refine zz ?_
      refine MC.ret rfl ?_
      rw [List.getElem?_eq_none (by omega)]
      exact ⟨rfl, hs⟩
    · refine zz ?_
      refine MC.draw hs [0, 1, 2, 3, 4, 5, 6, 7, 8, 9, 10, 11, 12] (by rfl) ?_; intro w hs
      have hlt : k - frm < l.length := by omega
      have h0 : (bufV l ++ sp)[0 + (((k : Nat) : Int) - ((frm : Nat) : Int)).toNat * 1]? = some (int ((l[k - frm] : Nat) : Int)) := by
        rw [Nat.zero_add, Nat.mul_one, show (((k : Nat) : Int) - ((frm : Nat) : Int)).toNat = k - frm by omega, List.getElem?_append_left (by rw [bufV_length]; omega)]
        simp [bufV, hlt]
      refine zd ?_
      refine MC.laD true (la_load1 hs rfl h0) rfl ?_
      refine zd ?_
      refine MC.ret rfl ?_
      rw [List.getElem?_eq_getElem hlt]
      exact ⟨rfl, hs⟩
end Go.Proofs.YtjlofdodiaklaaaGreat

namespace Go.Proofs.YtjlofdodiaklaaaGreat
open Go Go.Sl
attribute [local irreducible] LooksAt

structure Sv.ok (S : Sv) : Prop where
  few : S.fields.length ≤ 40
  fit : ∀ n ∈ S.fields, 0 ≤ n ∧ n ≤ 2147483647
  lo : S.stands = true → 1 ≤ S.epoch
  hi : S.epoch ≤ 2147483647
  no : S.stands = false → S = Sv.no
def encS (which : Int) (S : Sv) : List UInt8 := if S.stands = true then sectorB which S.epoch S.fields else many 256 0
theorem encS_length {which : Int} {S : Sv} (h : S.ok) : (encS which S).length = 256 := by
  unfold encS; split
  · exact sectorB_length h.few
  · simp
theorem read_enc {which : Int} {S : Sv} (h : S.ok) : readS which (encS which S) = S := by
  unfold encS; split
  · rename_i e
    rw [read_sector h.few h.fit (h.lo e) h.hi]
    obtain ⟨s, ep, f⟩ := S
    cases e; rfl
  · rename_i e
    rw [read_zero, ← h.no (by simpa using e)]
theorem Sv.no_ok : Sv.no.ok := ⟨by simp [Sv.no], by simp [Sv.no], by simp [Sv.no], by simp [Sv.no], fun _ => rfl⟩
structure Coh (D : Dev) (A B : Sv) : Prop where
  ok : D.ok
  len : D.S.length = 400
  noO : D.O = []
  a : D.S.getD 0 [] = encS 0 A
  b : D.S.getD 1 [] = encS 1 B
  okA : A.ok
  okB : B.ok
theorem get_noO {D : Dev} (h : D.O = []) (k : Nat) : D.get k = D.S.getD k [] := by simp [Dev.get, h, laid]
theorem Coh.readA {D : Dev} {A B : Sv} (h : Coh D A B) : readS 0 (D.get (0 : Int).toNat) = A := by
  rw [show (0 : Int).toNat = 0 from rfl, get_noO h.noO, h.a, read_enc h.okA]
theorem Coh.readB {D : Dev} {A B : Sv} (h : Coh D A B) : readS 1 (D.get ((0 : Int) + 1).toNat) = B := by
  rw [show ((0 : Int) + 1).toNat = 1 from rfl, get_noO h.noO, h.b, read_enc h.okB]
theorem Coh.red {D : Dev} {A B : Sv} (h : Coh D A B) : Coh D.red A B := ⟨Dev.red_ok h.ok, h.len, h.noO, h.a, h.b, h.okA, h.okB⟩
theorem latest_put {A B : Sv} (hA : A.ok) (hB : B.ok) (N : Sv) (hN : N.stands = true) (he : (latestOf A B).epoch < N.epoch) (hp : 0 < N.epoch) :
    latestOf (if otherOf A B = 1 then A else N) (if otherOf A B = 1 then N else B) = N := by
  obtain ⟨sa, ea, fa⟩ := A
  obtain ⟨sb, eb, fb⟩ := B
  obtain ⟨sn, en, fn⟩ := N
  cases hN
  have hA1 := hA.no
  have hB1 := hB.no
  cases sa <;> cases sb
  · simp_all [latestOf, otherOf, whichOf, Sv.no]
  · simp_all [latestOf, otherOf, whichOf, Sv.no]
    intro h; omega
  · simp_all [latestOf, otherOf, whichOf, Sv.no]
  · by_cases h : ea < eb
    · simp_all [latestOf, otherOf, whichOf, Sv.no]
      omega
    · simp_all [latestOf, otherOf, whichOf, Sv.no]
theorem Coh.save {D : Dev} {A B : Sv} (h : Coh D A B) {N : Sv} (hN : N.ok) (hs : N.stands = true) :
    Coh (D.write ((0 : Int) + otherOf A B).toNat (sectorB (otherOf A B) N.epoch N.fields)).sync (if otherOf A B = 1 then A else N) (if otherOf A B = 1 then N else B) := by
  have hl := sectorB_length (which := otherOf A B) (epoch := N.epoch) hN.few
  have hk := otherOf_cases A B
  have hE : encS (otherOf A B) N = sectorB (otherOf A B) N.epoch N.fields := by rw [encS, if_pos hs]
  rw [← hE] at hl ⊢
  have hw : ((0 : Int) + otherOf A B).toNat < D.S.length := by rw [h.len]; omega
  have hS : ((D.write ((0 : Int) + otherOf A B).toNat (encS (otherOf A B) N)).sync).S = D.S.set ((0 : Int) + otherOf A B).toNat (encS (otherOf A B) N) := by
    show laid D.S (D.O ++ [_]) = _
    rw [h.noO]; rfl
  have hlen := h.len
  refine ⟨Dev.sync_ok (Dev.write_ok h.ok hw hl), by rw [hS, List.length_set]; exact h.len, rfl, ?_, ?_, ?_, ?_⟩
  · rw [hS]
    rcases hk with e | e
    · rw [e]
      simp only [show ¬ ((0 : Int) = 1) by decide, if_false]
      rw [show ((0 : Int) + 0).toNat = 0 from rfl, List.getD_eq_getElem?_getD, List.getElem?_set_self (by omega)]; rfl
    · rw [e]
      simp only [if_true]
      rw [show ((0 : Int) + 1).toNat = 1 from rfl, List.getD_eq_getElem?_getD, List.getElem?_set_ne (by decide), ← List.getD_eq_getElem?_getD, h.a]
  · rw [hS]
    rcases hk with e | e
    · rw [e]
      simp only [show ¬ ((0 : Int) = 1) by decide, if_false]
      rw [show ((0 : Int) + 0).toNat = 0 from rfl, List.getD_eq_getElem?_getD, List.getElem?_set_ne (by decide), ← List.getD_eq_getElem?_getD, h.b]
    · rw [e]
      simp only [if_true]
      rw [show ((0 : Int) + 1).toNat = 1 from rfl, List.getD_eq_getElem?_getD, List.getElem?_set_self (by omega)]; rfl
  · split
    · exact h.okA
    · exact hN
  · split
    · exact hN
    · exact h.okB
theorem latest_ok {A B : Sv} (hA : A.ok) (hB : B.ok) : (latestOf A B).ok := by
  unfold latestOf; split
  · exact hB
  · split
    · exact hA
    · exact Sv.no_ok
structure Enc4 (l : List UInt8) (e : Int) : Prop where
  len : l.length = 256
  h0 : ((l.getD 0 0).toNat : Int) = e
  h1 : l.getD 1 0 = 0
  h2 : l.getD 2 0 = 0
  h3 : l.getD 3 0 = 0
  t0 : ((l.getD 252 0).toNat : Int) = e
  t1 : l.getD 253 0 = 0
  t2 : l.getD 254 0 = 0
  t3 : l.getD 255 0 = 0
theorem le4_small {e : Int} (h0 : 0 ≤ e) (h1 : e ≤ 255) : le4 e = [byteOf e, 0, 0, 0] := by
  have e1 : e / 256 = 0 := by omega
  have e2 : e / 65536 = 0 := by omega
  have e3 : e / 16777216 = 0 := by omega
  simp only [le4, e1, e2, e3]
  rfl
theorem getD_app (pre rest : List UInt8) (k j : Nat) (h : pre.length = k) : (pre ++ rest).getD (k + j) 0 = rest.getD j 0 := by
  subst h
  simp only [List.getD_eq_getElem?_getD]
  rw [List.getElem?_append_right (by omega), Nat.add_sub_cancel_left]
theorem sectorB_tail (which epoch : Int) (f : List Int) : sectorB which epoch f = (bodyB which epoch f ++ le4 (sumOf (bodyB which epoch f))) ++ (le4 epoch ++ []) := by
  unfold sectorB
  simp only [List.flatMap_cons, List.flatMap_nil, List.append_assoc]
theorem sectorB_pre {which epoch : Int} {f : List Int} (hf : f.length ≤ 40) : (bodyB which epoch f ++ le4 (sumOf (bodyB which epoch f))).length = 252 := by
  rw [List.length_append, bodyB_length hf, le4_length]
theorem enc4_sector {which epoch : Int} {f : List Int} (hf : f.length ≤ 40) (h0 : 0 ≤ epoch) (h1 : epoch ≤ 255) : Enc4 (sectorB which epoch f) epoch := by
  have hl := sectorB_length (which := which) (epoch := epoch) hf
  have hb := byteOf_toNat epoch
  have hb2 : ((byteOf epoch).toNat : Int) = epoch := by omega
  obtain ⟨P, hP⟩ := sectorB_eq which epoch f
  have hT := sectorB_tail which epoch f
  rw [le4_small h0 h1] at hP
  have hpre := sectorB_pre (which := which) (epoch := epoch) hf
  have ht : ∀ j, (sectorB which epoch f).getD (252 + j) 0 = (le4 epoch ++ []).getD j 0 := fun j => by rw [hT]; exact getD_app _ _ _ _ hpre
  rw [le4_small h0 h1] at ht
  refine ⟨hl, ?_, ?_, ?_, ?_, ?_, ?_, ?_, ?_⟩
  · rw [hP]; exact hb2
  · rw [hP]; rfl
  · rw [hP]; rfl
  · rw [hP]; rfl
  · rw [ht 0]; exact hb2
  · rw [ht 1]; rfl
  · rw [ht 2]; rfl
  · rw [ht 3]; rfl
theorem many_getD (n j : Nat) : (many n 0).getD j 0 = 0 := by
  simp only [many, List.getD_eq_getElem?_getD, List.getElem?_replicate]
  split <;> rfl
theorem enc4_enc {which : Int} {S : Sv} (h : S.ok) (h1 : S.epoch ≤ 255) : Enc4 (encS which S) S.epoch := by
  unfold encS; split
  · rename_i e
    have := h.lo e
    exact enc4_sector h.few (by omega) h1
  · rename_i e
    have : S = Sv.no := h.no (by simpa using e)
    subst this
    exact ⟨by simp, by rw [many_getD]; rfl, many_getD _ _, many_getD _ _, many_getD _ _, by rw [many_getD]; rfl, many_getD _ _, many_getD _ _, many_getD _ _⟩
theorem mix_getD {a b : List UInt8} (ha : a.length = 256) {m : Nat} (hm : m ≤ 256) (j : Nat) : (a.take m ++ b.drop m).getD j 0 = if j < m then a.getD j 0 else b.getD j 0 := by
  simp only [List.getD_eq_getElem?_getD]
  split
  · rename_i h
    rw [List.getElem?_append_left (by rw [List.length_take]; omega), List.getElem?_take, if_pos h]
  · rename_i h
    rw [List.getElem?_append_right (by rw [List.length_take]; omega), List.length_take, List.getElem?_drop]
    rw [show m + (j - min m a.length) = j by omega]
theorem mix_read {which : Int} {N O : Sv} (hN : N.ok) (hO : O.ok) (hs : N.stands = true) (hn : N.epoch ≤ 255) (ho : O.epoch < N.epoch) {m : Nat} (hm : m ≤ 256) :
    readS which ((encS which N).take m ++ (encS which O).drop m) = N ∨ readS which ((encS which N).take m ++ (encS which O).drop m) = O ∨ readS which ((encS which N).take m ++ (encS which O).drop m) = Sv.no := by
  have hn1 := hN.lo hs
  have eN := enc4_enc (which := which) hN hn
  have eO := enc4_enc (which := which) hO (by omega)
  have rN := read_enc (which := which) hN
  have rO := read_enc (which := which) hO
  generalize encS which N = a at eN rN
  generalize encS which O = b at eO rO
  have hg := fun j => mix_getD (b := b) eN.len hm j
  have hml : (a.take m ++ b.drop m).length = 256 := by rw [List.length_append, List.length_take, List.length_drop, eN.len, eO.len]; omega
  rcases Nat.eq_zero_or_pos m with rfl | hpos
  · right; left
    rw [List.take_zero, List.drop_zero, List.nil_append, rO]
  rcases Nat.lt_or_ge 252 m with hb | hb
  · left
    have e : a.take m ++ b.drop m = a := by
      apply List.ext_getElem
      · rw [hml, eN.len]
      intro j h1 h2
      have := hg j
      rw [List.getD_eq_getElem?_getD, List.getD_eq_getElem?_getD, List.getD_eq_getElem?_getD, List.getElem?_eq_getElem h1, List.getElem?_eq_getElem h2, List.getElem?_eq_getElem (show j < b.length by rw [eO.len, ← eN.len]; exact h2)] at this
      simp only [Option.getD_some] at this
      rw [this]
      split
      · rfl
      · have h3 : j = 253 ∨ j = 254 ∨ j = 255 := by have := eN.len; omega
        have f1 := eN.t1; have f2 := eN.t2; have f3 := eN.t3
        have g1 := eO.t1; have g2 := eO.t2; have g3 := eO.t3
        rw [List.getD_eq_getElem?_getD, List.getElem?_eq_getElem (by have := eN.len; omega)] at f1 f2 f3
        rw [List.getD_eq_getElem?_getD, List.getElem?_eq_getElem (by have := eO.len; omega)] at g1 g2 g3
        simp only [Option.getD_some] at f1 f2 f3 g1 g2 g3
        rcases h3 with rfl | rfl | rfl
        · rw [f1, g1]
        · rw [f2, g2]
        · rw [f3, g3]
    rw [e, rN]
  · right; right
    have z : ∀ (c d : UInt8) (q : Prop) [Decidable q], c = 0 → d = 0 → (if q then c else d) = 0 := fun c d q _ h1 h2 => by split <;> assumption
    have k0 : get4 (a.take m ++ b.drop m) 0 = N.epoch := by
      simp only [get4, hg]
      rw [if_pos hpos, z _ _ (0 + 1 < m) eN.h1 eO.h1, z _ _ (0 + 2 < m) eN.h2 eO.h2, z _ _ (0 + 3 < m) eN.h3 eO.h3, eN.h0]
      simp
    have k1 : get4 (a.take m ++ b.drop m) 252 = O.epoch := by
      simp only [get4, hg]
      rw [if_neg (show ¬ (252 < m) by omega), z _ _ (252 + 1 < m) eN.t1 eO.t1, z _ _ (252 + 2 < m) eN.t2 eO.t2, z _ _ (252 + 3 < m) eN.t3 eO.t3, eO.t0]
      simp
    have : ¬ Good which (a.take m ++ b.drop m) := fun h => by
      obtain ⟨h1, h2, h3, h4, h5⟩ := h
      rw [k0] at h5
      have hfl := fieldsOf_length (a.take m ++ b.drop m) (nOf (a.take m ++ b.drop m))
      generalize fieldsOf (a.take m ++ b.drop m) (nOf (a.take m ++ b.drop m)) = f at h5 hfl
      have e1 := sectorB_tail which N.epoch f
      have e2 := sectorB_pre (which := which) (epoch := N.epoch) (f := f) (by omega)
      have := get4_le4 _ [] N.epoch _ e2 (by omega) (by omega)
      rw [← e1, ← h5, k1] at this
      omega
    rw [readS, if_neg this]
theorem lose_one {D : Dev} {k : Nat} {l : List UInt8} (hO : D.O = []) (hk : k < D.S.length) (kept : List Bool) (torn at' : Int) :
    ∃ m, m ≤ 256 ∧ (D.write k l).lose kept torn at' = ⟨D.S.set k (l.take m ++ (D.S.getD k []).drop m), [], 0, 0⟩ := by
  refine ⟨lostN kept torn at' 0, lostN_le _ _ _ _, ?_⟩
  have e : (D.write k l).O = [(k, l)] := by show D.O ++ [(k, l)] = _; rw [hO]; rfl
  have e2 : (D.write k l).S = D.S := rfl
  rw [Dev.lose, e, e2]
  rfl
theorem enc_at {D : Dev} {A B : Sv} (hC : Coh D A B) : D.S.getD ((0 : Int) + otherOf A B).toNat [] = encS (otherOf A B) (if otherOf A B = 1 then B else A) := by
  rcases otherOf_cases A B with e | e
  · rw [e]
    simp only [show ¬ ((0 : Int) = 1) by decide, if_false]
    exact hC.a
  · rw [e]
    simp only [if_true]
    exact hC.b
theorem latest_keep {A B N : Sv} (hA : A.ok) (hB : B.ok) (hN : N = (if otherOf A B = 1 then B else A) ∨ N = Sv.no) : latestOf (if otherOf A B = 1 then A else N) (if otherOf A B = 1 then N else B) = latestOf A B := by
  obtain ⟨sa, ea, fa⟩ := A
  obtain ⟨sb, eb, fb⟩ := B
  have hA1 := hA.no
  have hB1 := hB.no
  rcases hN with rfl | rfl
  · split <;> rfl
  · cases sa <;> cases sb
    · simp_all [latestOf, otherOf, whichOf, Sv.no]
    · simp_all [latestOf, otherOf, whichOf, Sv.no]
    · simp_all [latestOf, otherOf, whichOf, Sv.no]
    · by_cases h : ea < eb
      · simp_all [latestOf, otherOf, whichOf, Sv.no]
      · simp_all [latestOf, otherOf, whichOf, Sv.no]
theorem torn_pair {D : Dev} {A B N : Sv} (hC : Coh D A B) (hN : N.ok) (hs : N.stands = true) (hn : N.epoch ≤ 255) (ho : A.epoch < N.epoch ∧ B.epoch < N.epoch) (he : (latestOf A B).epoch < N.epoch) {m : Nat} (hm : m ≤ 256) :
    ∃ E : Dev, E = ⟨D.S.set ((0 : Int) + otherOf A B).toNat ((sectorB (otherOf A B) N.epoch N.fields).take m ++ (D.S.getD ((0 : Int) + otherOf A B).toNat []).drop m), [], 0, 0⟩ ∧
      ∃ A' B', readS 0 (E.get (0 : Int).toNat) = A' ∧ readS 1 (E.get ((0 : Int) + 1).toNat) = B' ∧ E.ok ∧ E.S.length = 400 ∧ E.O = [] ∧ E.fuse = 0 ∧ A'.fields.length ≤ 40 ∧ B'.fields.length ≤ 40 ∧ (latestOf A' B' = N ∨ latestOf A' B' = latestOf A B) := by
  have hE : encS (otherOf A B) N = sectorB (otherOf A B) N.epoch N.fields := by rw [encS, if_pos hs]
  refine ⟨_, rfl, ?_⟩
  rw [← hE, enc_at hC]
  have hlen := hC.len
  have h1 := hN.lo hs
  have hOok : (if otherOf A B = 1 then B else A).ok := by split; exact hC.okB; exact hC.okA
  have hOe : (if otherOf A B = 1 then B else A).epoch < N.epoch := by split; exact ho.2; exact ho.1
  have hmix := mix_read (which := otherOf A B) hN hOok hs hn hOe hm
  have hml : ((encS (otherOf A B) N).take m ++ (encS (otherOf A B) (if otherOf A B = 1 then B else A)).drop m).length = 256 := by
    rw [List.length_append, List.length_take, List.length_drop, encS_length hN, encS_length hOok]; omega
  have hk := otherOf_cases A B
  generalize hgm : (encS (otherOf A B) N).take m ++ (encS (otherOf A B) (if otherOf A B = 1 then B else A)).drop m = mx at hmix hml
  obtain ⟨R, hR⟩ : ∃ R, readS (otherOf A B) mx = R := ⟨_, rfl⟩
  rw [hR] at hmix
  have hRl : latestOf (if otherOf A B = 1 then A else R) (if otherOf A B = 1 then R else B) = N ∨ latestOf (if otherOf A B = 1 then A else R) (if otherOf A B = 1 then R else B) = latestOf A B := by
    rcases hmix with rfl | h | h
    · left; exact latest_put hC.okA hC.okB R hs he (by omega)
    · right; exact latest_keep hC.okA hC.okB (.inl h)
    · right; exact latest_keep hC.okA hC.okB (.inr h)
  have hRf : R.fields.length ≤ 40 := by
    rcases hmix with rfl | rfl | rfl
    · exact hN.few
    · exact hOok.few
    · exact Nat.zero_le _
  have okE : (⟨D.S.set ((0 : Int) + otherOf A B).toNat mx, [], 0, 0⟩ : Dev).ok :=
    { pos := by simp only [List.length_set]; omega
      few := by simp only [List.length_set]; omega
      sec := fun s h => by
        rcases List.mem_or_eq_of_mem_set h with h | rfl
        · exact hC.ok.sec s h
        · exact hml
      op := fun x hx => by cases hx
      fuse0 := by simp
      fuse1 := by simp }
  have ga := hC.a
  have gb := hC.b
  refine ⟨if otherOf A B = 1 then A else R, if otherOf A B = 1 then R else B, ?_, ?_, okE, by simp [hlen], rfl, rfl, ?_, ?_, hRl⟩
  · rw [get_noO rfl]
    show readS 0 ((D.S.set ((0 : Int) + otherOf A B).toNat mx).getD 0 []) = _
    rcases hk with e | e
    · rw [e] at hR ⊢
      simp only [show ¬ ((0 : Int) = 1) by decide, if_false]
      rw [show ((0 : Int) + 0).toNat = 0 from rfl, List.getD_eq_getElem?_getD, List.getElem?_set_self (by omega)]
      exact hR
    · rw [e]
      simp only [if_true]
      rw [show ((0 : Int) + 1).toNat = 1 from rfl, List.getD_eq_getElem?_getD, List.getElem?_set_ne (by decide), ← List.getD_eq_getElem?_getD, ga, read_enc hC.okA]
  · rw [get_noO rfl]
    show readS 1 ((D.S.set ((0 : Int) + otherOf A B).toNat mx).getD 1 []) = _
    rcases hk with e | e
    · rw [e]
      simp only [show ¬ ((0 : Int) = 1) by decide, if_false]
      rw [show ((0 : Int) + 0).toNat = 0 from rfl, List.getD_eq_getElem?_getD, List.getElem?_set_ne (by decide), ← List.getD_eq_getElem?_getD, gb, read_enc hC.okB]
    · rw [e] at hR ⊢
      simp only [if_true]
      rw [show ((0 : Int) + 1).toNat = 1 from rfl, List.getD_eq_getElem?_getD, List.getElem?_set_self (by omega)]
      exact hR
  · split
    · exact hC.okA.few
    · exact hRf
  · split
    · exact hRf
    · exact hC.okB.few
theorem epochs_le {A B : Sv} (hA : A.ok) (hB : B.ok) {n : Int} (h0 : 0 ≤ n) (h : (latestOf A B).epoch ≤ n) : A.epoch ≤ n ∧ B.epoch ≤ n := by
  obtain ⟨sa, ea, fa⟩ := A
  obtain ⟨sb, eb, fb⟩ := B
  have hA1 := hA.no
  have hB1 := hB.no
  have hA2 := hA.lo
  have hB2 := hB.lo
  cases sa <;> cases sb
  · simp_all [latestOf, otherOf, whichOf, Sv.no]
  · simp_all [latestOf, otherOf, whichOf, Sv.no]
  · simp_all [latestOf, otherOf, whichOf, Sv.no]
  · by_cases h : ea < eb
    · simp_all [latestOf, otherOf, whichOf, Sv.no]
      omega
    · simp_all [latestOf, otherOf, whichOf, Sv.no]
      omega
end Go.Proofs.YtjlofdodiaklaaaGreat
