/-
  The cache: sweep, room | Roots: what a sector reads as | The cache: what its frames are; how that turns | Roots: which of the two is the latest; opening one
-/
import Derived.Test.YtjlofdodiaklaaaGreatYao
set_option maxHeartbeats 1000000
set_option linter.unusedVariables false
set_option linter.unusedSimpArgs false
namespace Go.Proofs.YtjlofdodiaklaaaGreat
open Go Go.Sl
attribute [local irreducible] LooksAt

def lateOnly (fs fs' : List Frm) : Prop := fs'.length = fs.length ∧ ∀ (j : Nat) (h : j < fs.length) (h' : j < fs'.length), ∃ b, fs'[j] = { fs[j] with late := b }
theorem lateOnly.refl (fs : List Frm) : lateOnly fs fs := ⟨rfl, fun j h h' => ⟨fs[j].late, rfl⟩⟩
theorem lateOnly.set {fs fs' : List Frm} (h : lateOnly fs fs') {i : Nat} (hi : i < fs'.length) (b : Bool) : lateOnly fs (fs'.set i { fs'[i] with late := b }) :=
  ⟨by rw [List.length_set]; exact h.1, fun j hj hj' => by
    have hj2 : j < fs'.length := by rw [List.length_set] at hj'; exact hj'
    obtain ⟨b', hb⟩ := h.2 j hj hj2
    by_cases hij : i = j
    · subst hij
      exact ⟨b, by rw [List.getElem_set_self, hb]⟩
    · exact ⟨b', by rw [List.getElem_set_ne hij, hb]⟩⟩
theorem lateOnly.pins {fs fs' : List Frm} (h : lateOnly fs fs') (h0 : ∀ f ∈ fs, f.pins = 0) : ∀ f ∈ fs', f.pins = 0 := fun f hf => by
  obtain ⟨j, hj, rfl⟩ := List.mem_iff_getElem.1 hf
  have hj2 : j < fs.length := by rw [← h.1]; exact hj
  obtain ⟨b, hb⟩ := h.2 j hj2 hj
  rw [hb]; exact (h0 fs[j] (List.getElem_mem hj2) : fs[j].pins = 0)
theorem pinned_spec {F : List Assn} {G G2 : List Value → List Assn} {q pd bl qc n : Nat} {a b c : Value} {fs : List Frm} {w : World} (hs : Sat F w) [hA : At F q [ptr pd, .slice (some ⟨bl, 0, none⟩) n n, .chan (some qc), a, b, c] 72 G] [hB : At F bl (frsV fs) 118 G2] (hn : fs.length = n) (hn1 : 1 ≤ n) (hp : ∀ f ∈ fs, f.pins = 0) :
    Ret Tryz.prog 134 [ptr q] w fun v w' => v = bool false ∧ Sat F w' := by
  have hn2 : 0 < fs.length := by omega
  have hrow : ((frsV fs).drop (0 + ((0 : Int)).toNat * 5)).take 5 = Frm.row fs[0] := by
    exact rows_get (f := Frm.row) (c := 5) (xs := fs) (fun _ _ => rfl) hn2
  have hp0 := hp _ (List.getElem_mem hn2)
  obtain ⟨f, hf⟩ : ∃ f, fs[0] = f := ⟨_, rfl⟩
  obtain ⟨held, sec, pins, late, qa, ln, cp, bb⟩ := f
  rw [hf] at hrow hp0
  have hp0 : pins = 0 := hp0
  subst hp0
  refine Ret.enter [(true, ptr q)] _ Tryz.func134 rfl Tryz.ntmps134 rfl ?_
  refine zz ?_
  refine MC.loop (σ := Unit) (fun _ => [(0, true, ptr q), (8, true, .slice (some ⟨bl, 0, none⟩) n n), (9, true, int ((n : Nat) : Int)), (10, true, int 0)]) (fun _ w' => w' = w) (fun _ => 0) () (by repeat (first | exact trivial | refine ⟨rfl, ?_⟩)) rfl ?_
  rintro _ w' rfl
  refine zz ?_
  refine MC.la true (la_loadV hs rfl (vs := [bool held, int sec, int 0, bool late, .slice qa ln cp]) hrow rfl rfl) rfl ?_
  refine MC.does true (does_alloc hs) rfl ?_
  rintro _ w ⟨b4, rfl, hs⟩
  refine MC.does true (does_store (vs := [bool held, int sec, int 0, bool late, .slice qa ln cp]) hs rfl rfl rfl rfl (all1 rfl) (by simp)) rfl ?_
  intro _ w hs
  rw [splice_all (by rfl)] at hs
  refine zz ?_
  refine MC.ret rfl ?_
  exact ⟨rfl, hs.tail⟩
theorem frs_set' {fs : List Frm} {i r : Nat} {u : Value} {f' : Frm} (h : i < fs.length) (hr : (Frm.row fs[i]).set r u = Frm.row f') (hr5 : r < 5) : (frsV fs).set (0 + ((i : Nat) : Int).toNat * 5 + r) u = frsV (fs.set i f') := by
  rw [Int.toNat_natCast, Nat.zero_add]; exact frs_set h hr hr5
set_option maxHeartbeats 1000000 in
theorem sweep_spec {F : List Assn} {q pd bl qc n hand : Nat} {b c : Value} {fs : List Frm} {w : World} (hs : Sat (blk q [ptr pd, .slice (some ⟨bl, 0, none⟩) n n, .chan (some qc), int ((hand : Nat) : Int), b, c] 72 :: fblk bl fs :: F) w) (hn : fs.length = n) (hn1 : 1 ≤ n) (hn2 : n ≤ 64) (hh : hand < n) (hp : ∀ f ∈ fs, f.pins = 0) :
    Ret Tryz.prog 132 [ptr q] w fun v w' => ∃ (i hand' : Nat) (fs' : List Frm), i < n ∧ hand' < n ∧ lateOnly fs fs' ∧ v = .tuple #[int ((i : Nat) : Int), bool true] ∧
      Sat (blk q [ptr pd, .slice (some ⟨bl, 0, none⟩) n n, .chan (some qc), int ((hand' : Nat) : Int), b, c] 72 :: fblk bl fs' :: F) w' := by
  have hpi := pinned_spec (q := q) (fs := fs) hs hn hn1 hp
  refine Ret.enter [(true, ptr q)] _ Tryz.func132 rfl Tryz.ntmps132 rfl ?_
  refine zz ?_
  refine MC.does true (does_call rfl (hpi)) rfl ?_
  rintro _ w ⟨rfl, hs⟩
  refine zz ?_
  refine MC.loop (σ := Nat × List Frm) (fun _ => [(0, true, ptr q)]) (fun x w => x.1 < n ∧ lateOnly fs x.2 ∧ Sat (blk q [ptr pd, .slice (some ⟨bl, 0, none⟩) n n, .chan (some qc), int ((x.1 : Nat) : Int), b, c] 72 :: fblk bl x.2 :: F) w) (fun x => (x.2.filter fun f => f.late).length) (hand, fs) (by repeat (first | exact trivial | refine ⟨rfl, ?_⟩)) ⟨hh, lateOnly.refl fs, hs⟩ ?_
  clear hs hpi
  rintro ⟨i, fs'⟩ w ⟨hi, hlo, hs⟩
  dsimp only [] at hi hlo hs ⊢
  have hl' : fs'.length = n := by rw [hlo.1]; exact hn
  have hp' := hlo.pins hp
  have hm : (((i : Nat) : Int) + 1) % ((n : Nat) : Int) = (((i + 1) % n : Nat) : Int) := by rw [Int.natCast_emod]; rfl
  have hmn : (i + 1) % n < n := Nat.mod_lt _ (by omega)
  have h2 := frs_at (fs := fs') (i := i) (r := 2) (by omega) (by decide)
  have h3 := frs_at (fs := fs') (i := i) (r := 3) (by omega) (by decide)
  have hpi := hp' _ (List.getElem_mem (show i < fs'.length by omega))
  obtain ⟨f, hf⟩ : ∃ f, fs'[i]'(by omega) = f := ⟨_, rfl⟩
  have hf' : fs'[i]'(by omega) = f := hf
  rw [hf] at h2 h3 hpi
  obtain ⟨held, sec, pins, late, qa, ln, cp, bb⟩ := f
  have hpi : pins = 0 := hpi
  subst hpi
  refine zz ?_
  refine MC.draw hs [0,1,2,3,4,5,6,7,8,9,10,11,12,13,14] (by rfl) ?_; intro w hs
  refine zd ?_
  rw [hm]
  refine MC.doesD true (does_store1 hs rfl rfl rfl (by first | decide | (simp; done) | (simp; omega))) rfl rfl rfl rfl ?_; intro _ w hs
  refine zd ?_
  refine zz ?_
  refine MC.la true (la_load1 hs rfl h2) rfl ?_
  refine zz ?_
  refine MC.la false (la_load1 hs rfl h3) rfl ?_
  cases late
  · refine MC.go1 tab rfl rfl ?_
    refine MC.condB (b := false) rfl (fun h => absurd h (by decide)) (fun _ => ?_)
    refine zz ?_
    refine MC.ret rfl ?_
    exact ⟨i, _, fs', hi, hmn, hlo, rfl, hs⟩
  · refine MC.go1 tab rfl rfl ?_
    refine MC.condB (b := true) rfl (fun _ => ?_) (fun h => absurd h (by decide))
    refine zz ?_
    refine MC.does true (does_store1 hs rfl rfl rfl (by rw [frsV_length, Int.toNat_natCast]; omega)) rfl ?_; intro _ w hs
    rw [frs_set' (f' := ⟨held, sec, 0, false, qa, ln, cp, bb⟩) (by omega) (by rw [hf']; rfl) (by decide)] at hs
    refine zz ?_
    refine MC.again ((i + 1) % n, fs'.set i ⟨held, sec, 0, false, qa, ln, cp, bb⟩) (by repeat (first | exact trivial | refine ⟨rfl, ?_⟩)) ⟨hmn, ?_, hs⟩ ?_
    · have := hlo.set (i := i) (by omega) false
      rw [hf'] at this
      exact this
    · show ((fs'.set i _).filter fun f => f.late).length < (fs'.filter fun f => f.late).length
      have e : fs' = fs'.take i ++ fs'[i]'(by omega) :: fs'.drop (i + 1) := by simp
      have e2 : fs'.set i ⟨held, sec, 0, false, qa, ln, cp, bb⟩ = fs'.take i ++ ⟨held, sec, 0, false, qa, ln, cp, bb⟩ :: fs'.drop (i + 1) := by
        rw [List.set_eq_take_append_cons_drop, if_pos (by omega)]
      rw [e2]
      conv => rhs; rw [e]
      rw [hf']
      simp
end Go.Proofs.YtjlofdodiaklaaaGreat

namespace Go.Proofs.YtjlofdodiaklaaaGreat
open Go Go.Sl
attribute [local irreducible] LooksAt

structure Sv where
  stands : Bool
  epoch : Int
  fields : List Int
def Sv.no : Sv := ⟨false, 0, []⟩
def fieldsOf (l : List UInt8) (n : Nat) : List Int := (List.range n).map fun i => get4 l (6 + 4 * i)
def nOf (l : List UInt8) : Nat := (l.getD 5 0).toNat
def Good (which : Int) (l : List UInt8) : Prop := 1 ≤ get4 l 0 ∧ nOf l ≤ 40 ∧ get4 l 0 ≤ 2147483647 ∧ (∀ x ∈ fieldsOf l (nOf l), 0 ≤ x ∧ x ≤ 2147483647) ∧ l = sectorB which (get4 l 0) (fieldsOf l (nOf l))
open Classical in
noncomputable def readS (which : Int) (l : List UInt8) : Sv := if Good which l then ⟨true, get4 l 0, fieldsOf l (nOf l)⟩ else Sv.no
theorem fieldsOf_length (l : List UInt8) (n : Nat) : (fieldsOf l n).length = n := by simp [fieldsOf]
theorem fieldsOf_succ (l : List UInt8) (n : Nat) : fieldsOf l (n + 1) = fieldsOf l n ++ [get4 l (6 + 4 * n)] := by simp [fieldsOf, List.range_succ]
def SvIs (S : Sv) (F : List Assn) (v : Value) (w : World) : Prop := ∃ vf, v = .agg #[bool S.stands, int S.epoch, vf] ∧ Sat (sl vf 3 1 S.fields.length (intsV S.fields) :: F) w
theorem get4_bd (l : List UInt8) (k : Nat) : 0 ≤ get4 l k ∧ get4 l k ≤ 4294967295 := by
  have b0 := UInt8.toNat_lt (l.getD k 0)
  have b1 := UInt8.toNat_lt (l.getD (k + 1) 0)
  have b2 := UInt8.toNat_lt (l.getD (k + 2) 0)
  have b3 := UInt8.toNat_lt (l.getD (k + 3) 0)
  unfold get4
  omega
theorem read_spec' {F : List Assn} {w : World} {vl : Value} {l : List UInt8} (which : Int) (hs : Sat F w) (hx : RdS F 1 vl l.length (bytesV l)) (hl : l.length = 256) :
    Ret Tryz.prog 27 [int which, vl] w fun v w' => SvIs (readS which l) F v w' := by
  obtain ⟨q, c, rfl, hc, _⟩ := hx.shape
  obtain ⟨b, o, rfl, hr⟩ := hx.at_ (by omega)
  have hg := get4_bd l 0
  have hn5 := UInt8.toNat_lt (l.getD 5 0)
  have hno : ¬ Good which l → ∀ {w'}, Sat F w' → SvIs (readS which l) F (.agg #[bool false, int 0, .slice none 0 0]) w' := fun h w' hs => by
    rw [readS, if_neg h]
    exact ⟨_, rfl, hs.sl_nil _ _⟩
  refine Ret.enter [(true, int which), (true, .slice (some ⟨b, o, none⟩) l.length c)] _ Tryz.func27 rfl Tryz.ntmps27 rfl ?_
  refine zz ?_
  refine MC.does true (does_alloc hs) rfl ?_; rintro _ w ⟨b4, rfl, hs⟩
  refine zz ?_
  obtain ⟨e, hge⟩ : ∃ e, get4 l 0 = e := ⟨_, rfl⟩
  have hget := get_spec 0 hs hx.up (by omega) (by omega)
  rw [hge] at hg hget
  refine MC.does true (does_call rfl (hget)) rfl ?_
  rintro _ w ⟨rfl, hs⟩
  refine MC.pure (f := true) (po_build (ls := [(1, [int e])]) (out := [bool false, int e, .slice none 0 0]) rfl rfl ⟨⟨_, rfl, by simp⟩, trivial⟩ rfl) rfl ?_
  refine MC.does true (does_alloc hs) rfl ?_; rintro _ w ⟨b5, rfl, hs⟩
  refine MC.does true (does_store (vs := [bool false, int e, .slice none 0 0]) hs rfl rfl rfl rfl (all1 rfl) (by simp)) rfl ?_; intro _ w hs; rw [splice_all (by rfl)] at hs
  have e5 : (bytesV l)[(5 : Int).toNat * 1]? = some (byte (l.getD 5 0)) := bytesV_atI l 5 5 rfl (by omega)
  refine zz ?_
  refine MC.la true (la_load1_rd hr hs (j := (5 : Int).toNat * 1) rfl e5) rfl ?_
  refine zz ?_
  have hnn : nOf l = (l.getD 5 0).toNat := rfl
  generalize (l.getD 5 0).toNat = n at hn5 hnn
  refine MC.part rfl rfl (fun h1 => ?_) (fun h1 => ?_)
  · have hbad : ¬ Good which l := fun h => by have := h.1; omega
    refine zz ?_
    refine MC.pure (f := true) (po_build (ls := []) (out := [bool false, int 0, .slice none 0 0]) rfl rfl trivial rfl) rfl ?_
    refine MC.does true (does_store (vs := [bool false, int 0, .slice none 0 0]) hs rfl rfl rfl rfl (all1 rfl) (by simp)) rfl ?_; intro _ w hs; rw [splice_all (by rfl)] at hs
    refine zz ?_
    refine MC.retC (vs := [bool false, int 0, .slice none 0 0]) rfl hs rfl rfl rfl rfl ?_; exact hno hbad (Suf.sat hs)
  refine zz ?_
  refine MC.cond rfl (fun h2 => ?_) (fun h2 => ?_)
  · have hbad : ¬ Good which l := fun h => by have := h.2.1; omega
    refine zz ?_
    refine MC.pure (f := true) (po_build (ls := []) (out := [bool false, int 0, .slice none 0 0]) rfl rfl trivial rfl) rfl ?_
    refine MC.does true (does_store (vs := [bool false, int 0, .slice none 0 0]) hs rfl rfl rfl rfl (all1 rfl) (by simp)) rfl ?_; intro _ w hs; rw [splice_all (by rfl)] at hs
    refine zz ?_
    refine MC.retC (vs := [bool false, int 0, .slice none 0 0]) rfl hs rfl rfl rfl rfl ?_; exact hno hbad (Suf.sat hs)
  have h1 : 1 ≤ e := by omega
  have h2 : n ≤ 40 := by omega
  refine zz ?_
  refine MC.loop (σ := Nat × Value) (fun s => [(0, true, int which), (1, true, .slice (some ⟨b, o, none⟩) l.length c), (4, true, ptr b4), (5, true, ptr b5), (6, true, int n), (23, true, int n), (24, true, int ((s.1 : Nat) : Int))])
    (fun s w => s.1 ≤ n ∧ Sat (sl s.2 3 1 s.1 (intsV (fieldsOf l s.1)) :: blk b5 [bool false, int e, s.2] 79 :: blk b4 [bool false, int 0, .slice none 0 0] 79 :: F) w) (fun s => n - s.1) (0, .slice none 0 0) (by repeat (first | exact trivial | refine ⟨rfl, ?_⟩)) ⟨by omega, hs.sl_nil _ _⟩ ?_
  rintro ⟨i, vf⟩ w ⟨hi, hs⟩
  have hi : i ≤ n := hi
  have hs : Sat (sl vf 3 1 i (intsV (fieldsOf l i)) :: blk b5 [bool false, int e, vf] 79 :: blk b4 [bool false, int 0, .slice none 0 0] 79 :: F) w := hs
  obtain ⟨_, qf, cf, rfl, _⟩ := hs.sl_len
  dsimp only []
  refine zz ?_
  refine MC.cond rfl (fun hlt => ?_) (fun hge' => ?_)
  · have hlt : i < n := by omega
    refine zz ?_
    refine MC.draw hs [0,1,2,3,4,5,6,7,8,9,10] (by rfl) ?_; intro w hs
    refine zd ?_
    have hsucc := fieldsOf_succ l i
    obtain ⟨x, hxe⟩ : ∃ x, get4 l (6 + 4 * i) = x := ⟨_, rfl⟩
    have hget := get_spec (6 + 4 * i) hs hx.up (by omega) (by omega)
    rw [show (((6 + 4 * i : Nat)) : Int) = 6 + 4 * (i : Int) by omega, hxe] at hget
    rw [hxe] at hsucc
    refine MC.doesK true (does_call rfl hget) rfl rfl rfl ?_
    rintro _ w ⟨rfl, hs⟩
    refine ⟨(by repeat (first | exact True.intro | refine ⟨At.sat hs, ?_⟩ | refine ⟨Suf.sat hs, ?_⟩ | refine ⟨AtM.sat hs, ?_⟩)), ?_⟩
    refine zd ?_
    refine MC.doesK true (does_buildL hs rfl rfl rfl (all1 rfl) rfl) rfl rfl rfl ?_; rintro _ w ⟨b8, rfl, hs⟩; refine zh ?_
    refine MC.doesK true (does_append hs rfl rfl (src_at rfl (intsV_one [x])) (by omega) (by omega)) rfl rfl rfl ?_
    intro va w hs
    refine ⟨(by repeat (first | exact True.intro | refine ⟨At.sat hs, ?_⟩ | refine ⟨Suf.sat hs, ?_⟩ | refine ⟨AtM.sat hs, ?_⟩)), ?_⟩
    obtain ⟨_, qa, ca, rfl, _⟩ := (hs.pull 1 rfl).sl_len
    refine zd ?_
    refine MC.doesD true (does_store1 hs rfl rfl rfl (by first | decide | (simp; done) | (simp; omega))) rfl rfl rfl rfl ?_; intro _ w hs
    have hs := hs.pickF 4 [1, 2, 3] rfl rfl
    refine zz ?_
    refine MC.again (i + 1, .slice qa (i + 1) ca) (by repeat (first | exact trivial | refine ⟨rfl, ?_⟩)) ⟨hlt, ?_⟩ (by show n - (i + 1) < n - i; omega)
    show Sat (sl (.slice qa (i + 1) ca) _ 1 (i + 1) (intsV (fieldsOf l (i + 1))) :: blk b5 [bool false, int e, .slice qa (i + 1) ca] _ :: _) w
    rw [hsucc, intsV_append]
    exact hs
  · obtain rfl : i = n := by omega
    have hfl := fieldsOf_length l i
    generalize hfe : fieldsOf l i = f at hs hfl
    refine zz ?_
    refine MC.does true (does_buildL hs rfl rfl rfl (all1 rfl) rfl) rfl ?_; rintro _ w ⟨b6, rfl, hs⟩
    have hre : RdS (blk b6 [int e] 3 :: sl (.slice qf i cf) 3 1 i (intsV f) :: blk b5 [bool false, int e, .slice qf i cf] 79 :: blk b4 [bool false, int 0, .slice none 0 0] 79 :: F) 1 (.slice (some ⟨b6, 0, none⟩) 1 1) 1 (intsV [e]) := ⟨_, _, rfl, Nat.le_refl _, rfl, fun _ => ⟨b6, 0, rfl, Rd.of_at⟩⟩
    refine MC.does false (does_call rfl (number_spec (xs := [e]) hs hre (by simp))) rfl ?_
    rintro _ w' ⟨rfl, rfl⟩
    have hs := hs.tail
    refine zz ?_
    refine MC.partN rfl rfl (fun h3 => ?_) (fun h3 => ?_)
    · have hbad : ¬ Good which l := fun h => h3 (by have := h.2.2.1; intro x hx; simp at hx; omega)
      refine zz ?_
      refine MC.pure (f := true) (po_build (ls := []) (out := [bool false, int 0, .slice none 0 0]) rfl rfl trivial rfl) rfl ?_
      refine MC.does true (does_store (vs := [bool false, int 0, .slice none 0 0]) hs rfl rfl rfl rfl (all1 rfl) (by simp)) rfl ?_; intro _ w hs; rw [splice_all (by rfl)] at hs
      refine zz ?_
      refine MC.retC (vs := [bool false, int 0, .slice none 0 0]) rfl hs rfl rfl rfl rfl ?_; exact hno hbad (Suf.sat hs)
    have h3 : e ≤ 2147483647 := (h3 e (by simp)).2
    refine zz ?_
    have hrf := RdS.of_sl hs
    subst hfl
    refine MC.does false (does_call rfl (number_spec (xs := f) hs hrf (by omega))) rfl ?_
    rintro _ w' ⟨rfl, rfl⟩
    refine zz ?_
    refine MC.partN rfl rfl (fun h4 => ?_) (fun h4 => ?_)
    · have hbad : ¬ Good which l := fun h => h4 (by have := h.2.2.2.1; rw [hnn, hfe] at this; exact this)
      refine zz ?_
      refine MC.pure (f := true) (po_build (ls := []) (out := [bool false, int 0, .slice none 0 0]) rfl rfl trivial rfl) rfl ?_
      refine MC.does true (does_store (vs := [bool false, int 0, .slice none 0 0]) hs rfl rfl rfl rfl (all1 rfl) (by simp)) rfl ?_; intro _ w hs; rw [splice_all (by rfl)] at hs
      refine zz ?_
      refine MC.retC (vs := [bool false, int 0, .slice none 0 0]) rfl hs rfl rfl rfl rfl ?_; exact hno hbad (Suf.sat hs)
    refine zz ?_
    refine MC.does true (does_call rfl (sector_spec which e hs hrf (by omega))) rfl ?_
    intro vs w hs
    have hsl := sectorB_length (which := which) (epoch := e) (f := f) (by omega)
    have hs : Sat (sl vs 5 1 (sectorB which e f).length (bytesV (sectorB which e f)) :: sl (.slice qf f.length cf) 3 1 f.length (intsV f) :: blk b5 [bool false, int e, .slice qf f.length cf] 79 :: blk b4 [bool false, int 0, .slice none 0 0] 79 :: F) w := by rw [hsl]; exact hs
    refine zz ?_
    refine MC.does false (does_call rfl (equal_spec hs hx.up (RdS.of_sl hs))) rfl ?_
    rintro _ w' ⟨rfl, rfl⟩
    have hs := hs.tail
    refine zz ?_
    refine MC.condN rfl (fun h5 => ?_) (fun h5 => ?_)
    · have hbad : ¬ Good which l := fun h => h5 (by have := h.2.2.2.2; rw [hnn, hfe, hge] at this; exact this)
      refine zz ?_
      refine MC.pure (f := true) (po_build (ls := []) (out := [bool false, int 0, .slice none 0 0]) rfl rfl trivial rfl) rfl ?_
      refine MC.does true (does_store (vs := [bool false, int 0, .slice none 0 0]) hs rfl rfl rfl rfl (all1 rfl) (by simp)) rfl ?_; intro _ w hs; rw [splice_all (by rfl)] at hs
      refine zz ?_
      refine MC.retC (vs := [bool false, int 0, .slice none 0 0]) rfl hs rfl rfl rfl rfl ?_; exact hno hbad (Suf.sat hs)
    have hgood : Good which l := ⟨by omega, by omega, by omega, by rw [hnn, hfe]; exact h4, by rw [hnn, hfe, hge]; exact h5⟩
    refine zz ?_
    refine MC.does true (does_store1 hs rfl rfl rfl (by first | decide | (simp; done) | (simp; omega))) rfl ?_; intro _ w hs
    refine zz ?_
    refine MC.la true (la_loadV hs rfl (vs := [bool true, int e, .slice qf f.length cf]) rfl rfl rfl) rfl ?_
    refine MC.does true (does_store (vs := [bool true, int e, .slice qf f.length cf]) hs rfl rfl rfl rfl (all1 rfl) (by simp)) rfl ?_; intro _ w hs; rw [splice_all (by rfl)] at hs
    refine zz ?_
    refine MC.retC (vs := [bool true, int e, .slice qf f.length cf]) rfl hs rfl rfl rfl rfl ?_
    rw [readS, if_pos hgood, hge, hnn, hfe]
    exact ⟨_, rfl, hs.pickF 3 [0] rfl rfl⟩
end Go.Proofs.YtjlofdodiaklaaaGreat

namespace Go.Proofs.YtjlofdodiaklaaaGreat
open Go Go.Sl
attribute [local irreducible] LooksAt

abbrev Bs := List UInt8
theorem few_of_nodup : ∀ (n : Nat) (l : List Nat), l.Nodup → (∀ x ∈ l, x < n) → l.length ≤ n
  | 0, l, _, h => by
    cases l with
    | nil => exact Nat.le_refl _
    | cons a l => exact absurd (h a List.mem_cons_self) (by omega)
  | n + 1, l, hd, h => by
    have ih := few_of_nodup n (l.erase n) (hd.erase n) fun x hx => by
      have h1 := h x (List.mem_of_mem_erase hx)
      have h2 : x ≠ n := fun e => by subst e; exact (List.Nodup.not_mem_erase hd) hx
      omega
    have := List.length_erase (a := n) (l := l)
    split at this <;> omega
structure CaOk (fs : List Frm) (buf : List Nat) (pool : List (Value × Bs)) (sec : Nat → Bs) (H : Nat → Prop) (pin : Option Nat) : Prop where
  nodup : buf.Nodup
  free : ∀ i, i ∈ buf ↔ ∃ h : i < fs.length, fs[i].held = false
  pins : ∀ f ∈ fs, f.pins = if f.held = true ∧ pin.map Int.ofNat = some f.sec then 1 else 0
  pinned : ∀ k, pin = some k → ∃ f ∈ fs, f.held = true ∧ f.sec = ((k : Nat) : Int)
  held : ∀ f ∈ fs, f.held = true → ∃ k : Nat, f.sec = ((k : Nat) : Int) ∧ H k ∧ f.b = sec k ∧ (f.v, f.b) ∈ pool
  once : ∀ (i j : Nat) (hi : i < fs.length) (hj : j < fs.length), fs[i].held = true → fs[j].held = true → fs[i].sec = fs[j].sec → i = j
structure CaHole (fs : List Frm) (buf : List Nat) (pool : List (Value × Bs)) (sec : Nat → Bs) (H : Nat → Prop) (i : Nat) : Prop where
  nodup : buf.Nodup
  free : ∀ j, j ∈ buf ↔ j ≠ i ∧ ∃ h : j < fs.length, fs[j].held = false
  pins : ∀ f ∈ fs, f.pins = 0
  held : ∀ (j : Nat) (h : j < fs.length), j ≠ i → fs[j].held = true → ∃ k : Nat, fs[j].sec = ((k : Nat) : Int) ∧ H k ∧ fs[j].b = sec k ∧ (fs[j].v, fs[j].b) ∈ pool
  once : ∀ (j l : Nat) (hj : j < fs.length) (hl : l < fs.length), j ≠ i → l ≠ i → fs[j].held = true → fs[l].held = true → fs[j].sec = fs[l].sec → j = l
  not : ∀ (k : Nat), (∀ f ∈ fs, f.held = true → f.sec ≠ ((k : Nat) : Int)) → ∀ (j : Nat) (h : j < fs.length), fs[j].held = true → fs[j].sec ≠ ((k : Nat) : Int)
section
variable {fs fs' : List Frm} {buf buf' : List Nat} {pool : List (Value × Bs)} {sec sec' : Nat → Bs} {H H' : Nat → Prop} {pin : Option Nat} {i k : Nat}
theorem CaOk.pins0 (h : CaOk fs buf pool sec H none) : ∀ f ∈ fs, f.pins = 0 := fun f hf => by rw [h.pins f hf, if_neg (by simp)]
theorem mem_set_iff {f g : Frm} (hg : g ∈ fs.set i f) : g = f ∨ ∃ (j : Nat) (h : j < fs.length), j ≠ i ∧ g = fs[j] := by
  obtain ⟨j, hj, rfl⟩ := List.mem_iff_getElem.1 hg
  rw [List.length_set] at hj
  by_cases hij : i = j
  · subst hij; left; rw [List.getElem_set_self]
  · right; exact ⟨j, hj, fun e => hij e.symm, by rw [List.getElem_set_ne hij]⟩
theorem getElem_set' {f : Frm} {j : Nat} (hj : j < (fs.set i f).length) : (fs.set i f)[j] = if i = j then f else fs[j]'(by rw [List.length_set] at hj; exact hj) := by
  rw [List.getElem_set]
theorem CaOk.hit (h : CaOk fs buf pool sec H none) (hi : i < fs.length) (hh : fs[i].held = true) (hk : fs[i].sec = ((k : Nat) : Int)) : CaOk (fs.set i { fs[i] with pins := 1, late := true }) buf pool sec H (some k) where
  nodup := h.nodup
  free j := by
    rw [h.free j]
    constructor
    · rintro ⟨hj, hf⟩
      refine ⟨by rw [List.length_set]; exact hj, ?_⟩
      rw [getElem_set']
      split
      · rename_i e; subst e; exact hf
      · exact hf
    · rintro ⟨hj, hf⟩
      have hj' : j < fs.length := by rw [List.length_set] at hj; exact hj
      refine ⟨hj', ?_⟩
      rw [getElem_set'] at hf
      split at hf
      · rename_i e; subst e; exact hf
      · exact hf
  pins g hg := by
    rcases mem_set_iff hg with rfl | ⟨j, hj, hji, rfl⟩
    · have : (Option.map Int.ofNat (some k)) = some fs[i].sec := by rw [hk]; rfl
      show (1 : Int) = if fs[i].held = true ∧ Option.map Int.ofNat (some k) = some fs[i].sec then 1 else 0
      rw [if_pos ⟨hh, this⟩]
    · rw [h.pins0 _ (List.getElem_mem hj), if_neg]
      rintro ⟨h1, h2⟩
      refine hji (h.once j i hj hi h1 hh ?_)
      rw [hk]
      have : some ((k : Nat) : Int) = some fs[j].sec := h2
      exact (Option.some.inj this).symm
  pinned k' hk' := by
    obtain rfl : k = k' := Option.some.inj hk'
    exact ⟨_, List.mem_iff_getElem.2 ⟨i, by rw [List.length_set]; exact hi, List.getElem_set_self _⟩, hh, hk⟩
  held g hg hgh := by
    rcases mem_set_iff hg with rfl | ⟨j, hj, hji, rfl⟩
    · exact h.held fs[i] (List.getElem_mem hi) hh
    · exact h.held fs[j] (List.getElem_mem hj) hgh
  once a b ha hb h1 h2 h3 := by
    have ha' : a < fs.length := by rw [List.length_set] at ha; exact ha
    have hb' : b < fs.length := by rw [List.length_set] at hb; exact hb
    have key : ∀ j (hj : j < (fs.set i { fs[i] with pins := 1, late := true }).length) (hj' : j < fs.length), (fs.set i { fs[i] with pins := 1, late := true })[j].held = fs[j].held ∧ (fs.set i { fs[i] with pins := 1, late := true })[j].sec = fs[j].sec := fun j hj hj' => by
      rw [getElem_set']
      split
      · rename_i e; subst e; exact ⟨rfl, rfl⟩
      · exact ⟨rfl, rfl⟩
    rw [(key a ha ha').1] at h1
    rw [(key b hb hb').1] at h2
    rw [(key a ha ha').2, (key b hb hb').2] at h3
    exact h.once a b ha' hb' h1 h2 h3
theorem CaOk.leave (h : CaOk fs buf pool sec H (some k)) (hi : i < fs.length) (hh : fs[i].held = true) (hk : fs[i].sec = ((k : Nat) : Int)) : fs[i].pins = 1 ∧ CaOk (fs.set i { fs[i] with pins := 0 }) buf pool sec H none := by
  have hp : ∀ (j : Nat) (hj : j < fs.length), j ≠ i → fs[j].pins = 0 := fun j hj hji => by
    rw [h.pins _ (List.getElem_mem hj), if_neg]
    rintro ⟨h1, h2⟩
    refine hji (h.once j i hj hi h1 hh ?_)
    rw [hk]
    have : some ((k : Nat) : Int) = some fs[j].sec := h2
    exact (Option.some.inj this).symm
  have key : ∀ j (hj : j < (fs.set i { fs[i] with pins := 0 }).length) (hj' : j < fs.length), (fs.set i { fs[i] with pins := 0 })[j].held = fs[j].held ∧ (fs.set i { fs[i] with pins := 0 })[j].sec = fs[j].sec := fun j hj hj' => by
    rw [getElem_set']
    split
    · rename_i e; subst e; exact ⟨rfl, rfl⟩
    · exact ⟨rfl, rfl⟩
  refine ⟨?_, ?_⟩
  · rw [h.pins _ (List.getElem_mem hi), if_pos ⟨hh, by rw [hk]; rfl⟩]
  · exact {
      nodup := h.nodup
      free := fun j => by
        rw [h.free j]
        constructor
        · rintro ⟨hj, hf⟩
          exact ⟨by rw [List.length_set]; exact hj, by rw [(key j _ hj).1]; exact hf⟩
        · rintro ⟨hj, hf⟩
          have hj' : j < fs.length := by rw [List.length_set] at hj; exact hj
          exact ⟨hj', by rw [(key j hj hj').1] at hf; exact hf⟩
      pins := fun g hg => by
        rw [if_neg (by simp)]
        rcases mem_set_iff hg with rfl | ⟨j, hj, hji, rfl⟩
        · rfl
        · exact hp j hj hji
      pinned := fun k' hk' => by cases hk'
      held := fun g hg hgh => by
        rcases mem_set_iff hg with rfl | ⟨j, hj, hji, rfl⟩
        · exact h.held fs[i] (List.getElem_mem hi) hh
        · exact h.held fs[j] (List.getElem_mem hj) hgh
      once := fun a b ha hb h1 h2 h3 => by
        have ha' : a < fs.length := by rw [List.length_set] at ha; exact ha
        have hb' : b < fs.length := by rw [List.length_set] at hb; exact hb
        rw [(key a ha ha').1] at h1
        rw [(key b hb hb').1] at h2
        rw [(key a ha ha').2, (key b hb hb').2] at h3
        exact h.once a b ha' hb' h1 h2 h3 }
theorem CaOk.holeA (h : CaOk fs (i :: buf) pool sec H none) : CaHole fs buf pool sec H i where
  nodup := (List.nodup_cons.1 h.nodup).2
  free j := by
    have hn := (List.nodup_cons.1 h.nodup).1
    constructor
    · intro hj
      exact ⟨fun e => by subst e; exact hn hj, (h.free j).1 (List.mem_cons_of_mem _ hj)⟩
    · rintro ⟨hji, hf⟩
      rcases List.mem_cons.1 ((h.free j).2 hf) with e | e
      · exact absurd e hji
      · exact e
  pins := h.pins0
  held j hj _ hh := h.held fs[j] (List.getElem_mem hj) hh
  once a b ha hb _ _ h1 h2 h3 := h.once a b ha hb h1 h2 h3
  not k hk j hj := hk fs[j] (List.getElem_mem hj)
theorem CaOk.holeB (h : CaOk fs [] pool sec H none) (hl : lateOnly fs fs') : CaHole fs' [] pool sec H i := by
  have key : ∀ j (hj : j < fs'.length), ∃ hj' : j < fs.length, fs'[j].held = fs[j].held ∧ fs'[j].sec = fs[j].sec ∧ fs'[j].b = fs[j].b ∧ fs'[j].v = fs[j].v := fun j hj => by
    have hj' : j < fs.length := by rw [← hl.1]; exact hj
    obtain ⟨b, hb⟩ := hl.2 j hj' hj
    exact ⟨hj', by rw [hb], by rw [hb], by rw [hb], by rw [hb]⟩
  exact {
    nodup := List.nodup_nil
    free := fun j => ⟨fun hj => (by cases hj), fun ⟨_, hj, hf⟩ => by
      obtain ⟨hj', e1, _⟩ := key j hj
      rw [e1] at hf
      exact absurd ((h.free j).2 ⟨hj', hf⟩) (by simp)⟩
    pins := hl.pins h.pins0
    held := fun j hj _ hh => by
      obtain ⟨hj', e1, e2, e3, e4⟩ := key j hj
      rw [e1] at hh
      rw [e2, e3, e4]
      exact h.held fs[j] (List.getElem_mem hj') hh
    once := fun a b ha hb _ _ h1 h2 h3 => by
      obtain ⟨ha', e1, e2, _⟩ := key a ha
      obtain ⟨hb', e3, e4, _⟩ := key b hb
      rw [e1] at h1
      rw [e3] at h2
      rw [e2, e4] at h3
      exact h.once a b ha' hb' h1 h2 h3
    not := fun k hk j hj => hk fs'[j] (List.getElem_mem hj) }
theorem CaHole.room (h : CaHole fs buf pool sec H i) (hi : i < fs.length) : buf.length < fs.length := by
  have hn : i ∉ buf := fun hm => ((h.free i).1 hm).1 rfl
  have := few_of_nodup fs.length (i :: buf) (List.nodup_cons.2 ⟨hn, h.nodup⟩) fun x hx => by
    rcases List.mem_cons.1 hx with rfl | hx
    · exact hi
    · obtain ⟨_, h', _⟩ := (h.free x).1 hx; exact h'
  rw [List.length_cons] at this
  omega
def Frm.zero : Frm := ⟨false, 0, 0, false, none, 0, 0, []⟩
theorem CaHole.fail (h : CaHole fs buf pool sec H i) (hi : i < fs.length) : CaOk (fs.set i Frm.zero) (buf ++ [i]) pool sec H none where
  nodup := by
    have hn : i ∉ buf := fun hm => ((h.free i).1 hm).1 rfl
    rw [List.nodup_append]
    exact ⟨h.nodup, by simp, fun a ha b hb e => by simp at hb; subst hb; subst e; exact hn ha⟩
  free j := by
    rw [List.mem_append, List.mem_singleton]
    constructor
    · rintro (hj | rfl)
      · obtain ⟨hji, hj', hf⟩ := (h.free j).1 hj
        exact ⟨by rw [List.length_set]; exact hj', by rw [getElem_set', if_neg (fun e => hji e.symm)]; exact hf⟩
      · exact ⟨by rw [List.length_set]; exact hi, by rw [getElem_set', if_pos rfl]; rfl⟩
    · rintro ⟨hj, hf⟩
      by_cases hji : j = i
      · exact .inr hji
      · left
        rw [getElem_set', if_neg (fun e => hji e.symm)] at hf
        exact (h.free j).2 ⟨hji, by rw [List.length_set] at hj; exact hj, hf⟩
  pins g hg := by
    rw [if_neg (by simp)]
    rcases mem_set_iff hg with rfl | ⟨j, hj, hji, rfl⟩
    · rfl
    · exact h.pins _ (List.getElem_mem hj)
  pinned k hk := by cases hk
  held g hg hgh := by
    rcases mem_set_iff hg with rfl | ⟨j, hj, hji, rfl⟩
    · cases hgh
    · exact h.held j hj hji hgh
  once a b ha hb h1 h2 h3 := by
    have ha' : a < fs.length := by rw [List.length_set] at ha; exact ha
    have hb' : b < fs.length := by rw [List.length_set] at hb; exact hb
    rw [getElem_set'] at h1 h2 h3
    rw [getElem_set'] at h3
    split at h1
    · cases h1
    · split at h2
      · cases h2
      · rename_i e1 e2
        rw [if_neg e1, if_neg e2] at h3
        exact h.once a b ha' hb' (fun e => e1 e.symm) (fun e => e2 e.symm) h1 h2 h3
theorem CaHole.fill (h : CaHole fs buf pool sec H i) (hi : i < fs.length) (hk : H k) (hno : ∀ (j : Nat) (h : j < fs.length), fs[j].held = true → fs[j].sec ≠ ((k : Nat) : Int)) (qa : Option Addr) (ln cp : Nat) :
    CaOk (fs.set i ⟨true, ((k : Nat) : Int), 1, true, qa, ln, cp, sec k⟩) buf (pool ++ [(.slice qa ln cp, sec k)]) sec H (some k) where
  nodup := h.nodup
  free j := by
    constructor
    · intro hj
      obtain ⟨hji, hj', hf⟩ := (h.free j).1 hj
      exact ⟨by rw [List.length_set]; exact hj', by rw [getElem_set', if_neg (fun e => hji e.symm)]; exact hf⟩
    · rintro ⟨hj, hf⟩
      rw [getElem_set'] at hf
      split at hf
      · cases hf
      · rename_i e
        exact (h.free j).2 ⟨fun e' => e e'.symm, by rw [List.length_set] at hj; exact hj, hf⟩
  pins g hg := by
    rcases mem_set_iff hg with rfl | ⟨j, hj, hji, rfl⟩
    · rw [if_pos ⟨rfl, rfl⟩]
    · rw [h.pins _ (List.getElem_mem hj), if_neg]
      rintro ⟨h1, h2⟩
      have : some ((k : Nat) : Int) = some fs[j].sec := h2
      exact hno j hj h1 (Option.some.inj this).symm
  pinned k' hk' := by
    obtain rfl : k = k' := Option.some.inj hk'
    exact ⟨_, List.mem_iff_getElem.2 ⟨i, by rw [List.length_set]; exact hi, List.getElem_set_self _⟩, rfl, rfl⟩
  held g hg hgh := by
    rcases mem_set_iff hg with rfl | ⟨j, hj, hji, rfl⟩
    · exact ⟨k, rfl, hk, rfl, List.mem_append_right _ (by simp [Frm.v])⟩
    · obtain ⟨k', h1, h2, h3, h4⟩ := h.held j hj hji hgh
      exact ⟨k', h1, h2, h3, List.mem_append_left _ h4⟩
  once a b ha hb h1 h2 h3 := by
    have ha' : a < fs.length := by rw [List.length_set] at ha; exact ha
    have hb' : b < fs.length := by rw [List.length_set] at hb; exact hb
    rw [getElem_set'] at h1 h2 h3
    rw [getElem_set'] at h3
    by_cases e1 : i = a
    · by_cases e2 : i = b
      · omega
      · rw [if_neg e2] at h2 h3
        rw [if_pos e1] at h3
        exact absurd h3.symm (hno b hb' h2)
    · rw [if_neg e1] at h1 h3
      by_cases e2 : i = b
      · rw [if_pos e2] at h3
        exact absurd h3 (hno a ha' h1)
      · rw [if_neg e2] at h2 h3
        exact h.once a b ha' hb' (fun e => e1 e.symm) (fun e => e2 e.symm) h1 h2 h3
theorem CaOk.hole (h : CaOk fs buf pool sec H none) (hi : i < fs.length) (hh : fs[i].held = true) : CaHole fs buf pool sec H i where
  nodup := h.nodup
  free j := by
    constructor
    · intro hj
      refine ⟨fun e => ?_, (h.free j).1 hj⟩
      subst e
      obtain ⟨_, hf⟩ := (h.free j).1 hj
      rw [hh] at hf; cases hf
    · rintro ⟨_, hf⟩; exact (h.free j).2 hf
  pins := h.pins0
  held j hj _ hh := h.held fs[j] (List.getElem_mem hj) hh
  once a b ha hb _ _ h1 h2 h3 := h.once a b ha hb h1 h2 h3
  not k hk j hj := hk fs[j] (List.getElem_mem hj)
theorem CaOk.less (h : CaOk fs buf pool sec H pin) (hH : ∀ f ∈ fs, f.held = true → ∀ k : Nat, f.sec = ((k : Nat) : Int) → H k → H' k ∧ sec k = sec' k) : CaOk fs buf pool sec' H' pin :=
  ⟨h.nodup, h.free, h.pins, h.pinned, fun f hf hh => by
    obtain ⟨k, h1, h2, h3, h4⟩ := h.held f hf hh
    obtain ⟨h5, h6⟩ := hH f hf hh k h1 h2
    exact ⟨k, h1, h5, by rw [h3, h6], h4⟩, h.once⟩
theorem CaOk.forget (h : CaOk fs buf pool sec H none) (hi : i < fs.length) (hh : fs[i].held = true) (hk : fs[i].sec = ((k : Nat) : Int)) : CaOk (fs.set i Frm.zero) (buf ++ [i]) pool sec (fun x => H x ∧ x ≠ k) none :=
  ((h.hole hi hh).fail hi).less fun f hf hfh k' e hk' => by
    refine ⟨⟨hk', ?_⟩, rfl⟩
    rintro rfl
    rcases mem_set_iff hf with rfl | ⟨j, hj, hji, rfl⟩
    · cases hfh
    · exact hji (h.once j i hj hi hfh hh (by rw [e, hk]))
theorem CaOk.new (n : Nat) : CaOk (List.replicate n Frm.zero) (List.range n) [] sec H none where
  nodup := List.nodup_range
  free i := by simp [Frm.zero]
  pins f hf := by rw [List.eq_of_mem_replicate hf, if_neg (by simp)]; rfl
  pinned k hk := by cases hk
  held f hf hh := by rw [List.eq_of_mem_replicate hf] at hh; cases hh
  once a b ha hb h1 := by rw [List.getElem_replicate] at h1; cases h1
end
end Go.Proofs.YtjlofdodiaklaaaGreat

namespace Go.Proofs.YtjlofdodiaklaaaGreat
open Go Go.Sl
attribute [local irreducible] LooksAt

def rt (r p : Nat) (at' : Int) (A B : Sv) : Assn := Sl.ex fun va : Value => Sl.ex fun vb : Value => star [blk r [ptr p, int at', bool A.stands, int A.epoch, va, bool B.stands, int B.epoch, vb] 82, sl va 3 1 A.fields.length (intsV A.fields), sl vb 3 1 B.fields.length (intsV B.fields)]
section
variable {F : List Assn} {r p : Nat} {at' : Int} {A B : Sv} {w : World}
theorem rt_open (hs : Sat (rt r p at' A B :: F) w) : ∃ va vb, Sat (blk r [ptr p, int at', bool A.stands, int A.epoch, va, bool B.stands, int B.epoch, vb] 82 :: sl va 3 1 A.fields.length (intsV A.fields) :: sl vb 3 1 B.fields.length (intsV B.fields) :: F) w := by
  obtain ⟨va, hs⟩ := Sat.ex_iff.1 hs
  obtain ⟨vb, hs⟩ := Sat.ex_iff.1 hs
  exact ⟨va, vb, hs.unstar⟩
theorem rt_shut {va vb : Value} (hs : Sat (blk r [ptr p, int at', bool A.stands, int A.epoch, va, bool B.stands, int B.epoch, vb] 82 :: sl va 3 1 A.fields.length (intsV A.fields) :: sl vb 3 1 B.fields.length (intsV B.fields) :: F) w) : Sat (rt r p at' A B :: F) w :=
  Sat.ex_iff.2 ⟨va, Sat.ex_iff.2 ⟨vb, Sat.restar (l := [_, _, _]) hs⟩⟩
end
def whichOf (A B : Sv) : Int := if B.stands = true ∧ (A.stands = false ∨ A.epoch < B.epoch) then 1 else if A.stands = true then 0 else -1
theorem which_spec {F : List Assn} {r p : Nat} {at' : Int} {A B : Sv} {w : World} (hs : Sat (rt r p at' A B :: F) w) :
    Ret Tryz.prog 45 [ptr r] w fun v w' => v = int (whichOf A B) ∧ Sat (rt r p at' A B :: F) w' := by
  obtain ⟨va, vb, hs⟩ := rt_open hs
  obtain ⟨sa, ea, fa⟩ := A
  obtain ⟨sb, eb, fb⟩ := B
  dsimp only [] at hs
  refine Ret.enter [(true, ptr r)] _ Tryz.func45 rfl Tryz.ntmps45 rfl ?_
  refine zz ?_
  refine MC.la true (la_loadV hs rfl (vs := [bool sa, int ea, va, bool sb, int eb, vb]) rfl rfl rfl) rfl ?_
  refine zz ?_
  refine MC.loop (σ := Nat) (fun i => [(0, true, ptr r), (3, true, int (if i = 0 then -1 else if i = 1 then (if sa then 0 else -1) else whichOf ⟨sa, ea, fa⟩ ⟨sb, eb, fb⟩)), (9, true, .agg #[bool sa, int ea, va, bool sb, int eb, vb]), (10, true, int ((i : Nat) : Int))])
    (fun i w => i ≤ 2 ∧ Sat (blk r [ptr p, int at', bool sa, int ea, va, bool sb, int eb, vb] 82 :: sl va 3 1 fa.length (intsV fa) :: sl vb 3 1 fb.length (intsV fb) :: F) w) (fun i => 2 - i) 0 (by repeat (first | exact trivial | refine ⟨rfl, ?_⟩)) ⟨by decide, hs⟩ ?_
  rintro i w ⟨hi, hs⟩
  obtain rfl | rfl | rfl : i = 0 ∨ i = 1 ∨ i = 2 := by omega
  · simp only [if_true]
    refine zz ?_
    refine MC.pure (f := true) (po_index_arr (j := 0) (cs := [bool sa, int ea, va, bool sb, int eb, vb]) rfl rfl (by decide) (by simp)) rfl ?_
    refine MC.does true (does_alloc hs) rfl ?_; rintro _ w ⟨b5, rfl, hs⟩
    refine zz ?_
    refine MC.does true (does_store (vs := [bool sa, int ea, va]) hs rfl rfl rfl rfl ?_ (by simp)) rfl ?_
    · intro u hu
      obtain ⟨_, q, c, rfl, _⟩ := (hs.pull 2 rfl).sl_len
      simp only [List.mem_cons, List.not_mem_nil, or_false] at hu
      rcases hu with rfl | rfl | rfl <;> rfl
    intro _ w hs
    rw [splice_all (by rfl)] at hs
    cases sa
    · refine zz ?_
      refine MC.draw hs [0,1,2,3,4,5,6,7,8,9,10,11,12,13,14,15,16,17] (by rfl) ?_; intro w hs
      refine zd ?_
      exact MC.again 1 (by repeat (first | exact trivial | refine ⟨rfl, ?_⟩)) ⟨by decide, hs.tail⟩ (by decide)
    · refine zz ?_
      refine MC.draw hs [0,1,2,3,4,5,6,7,8,9,10,11,12,13,14,15,16,17] (by rfl) ?_; intro w hs
      refine zd ?_
      exact MC.again 1 (by repeat (first | exact trivial | refine ⟨rfl, ?_⟩)) ⟨by decide, hs.tail⟩ (by decide)
  · simp only [if_true, if_neg (show ¬ (1 = 0) by decide)]
    refine zz ?_
    refine MC.pure (f := true) (po_index_arr (j := 1) (cs := [bool sa, int ea, va, bool sb, int eb, vb]) rfl rfl (by decide) (by simp)) rfl ?_
    refine MC.does true (does_alloc hs) rfl ?_; rintro _ w ⟨b5, rfl, hs⟩
    refine zz ?_
    refine MC.does true (does_store (vs := [bool sb, int eb, vb]) hs rfl rfl rfl rfl ?_ (by simp)) rfl ?_
    · intro u hu
      obtain ⟨_, q, c, rfl, _⟩ := (hs.pull 3 rfl).sl_len
      simp only [List.mem_cons, List.not_mem_nil, or_false] at hu
      rcases hu with rfl | rfl | rfl <;> rfl
    intro _ w hs
    rw [splice_all (by rfl)] at hs
    cases sb
    · have hw : whichOf ⟨sa, ea, fa⟩ ⟨false, eb, fb⟩ = if sa then 0 else -1 := by simp [whichOf]
      refine zz ?_
      refine MC.draw hs [0,1,2,3,4,5,6,7,8,9,10,11,12,13,14,15,16,17] (by rfl) ?_; intro w hs
      refine zd ?_
      refine MC.again 2 ⟨rfl, ?_, rfl, rfl, trivial⟩ ⟨by decide, hs.tail⟩ (by decide)
      exact congrArg (fun n => some (int n)) hw.symm
    · cases sa
      · have hw : whichOf ⟨false, ea, fa⟩ ⟨true, eb, fb⟩ = 1 := by simp [whichOf]
        simp only [Bool.false_eq_true, if_false]
        refine zz ?_
        refine MC.draw hs [0,1,2,3,4,5,6,7,8,9,10,11,12,13,14,15,16,17] (by rfl) ?_; intro w hs
        refine zd ?_
        refine MC.again 2 ⟨rfl, ?_, rfl, rfl, trivial⟩ ⟨by decide, hs.tail⟩ (by decide)
        exact congrArg (fun n => some (int n)) hw.symm
      · try simp only [if_true]
        refine zz ?_
        refine MC.draw hs [0,1,2,3,4,5,6,7,8,9,10,11,12,13,14,15,16,17] (by rfl) ?_; intro w hs
        refine zd ?_
        refine MC.cond rfl (fun h => ?_) (fun h => ?_)
        · have hw : whichOf ⟨true, ea, fa⟩ ⟨true, eb, fb⟩ = 1 := by simp [whichOf, h]
          refine zz ?_
          refine MC.again 2 ⟨rfl, ?_, rfl, rfl, trivial⟩ ⟨by decide, hs.tail⟩ (by decide)
          exact congrArg (fun n => some (int n)) hw.symm
        · have hw : whichOf ⟨true, ea, fa⟩ ⟨true, eb, fb⟩ = 0 := by simp [whichOf, h]
          refine zz ?_
          refine MC.again 2 ⟨rfl, ?_, rfl, rfl, trivial⟩ ⟨by decide, hs.tail⟩ (by decide)
          exact congrArg (fun n => some (int n)) hw.symm
  · simp only [if_neg (show ¬ (2 = 0) by decide), if_neg (show ¬ (2 = 1) by decide)]
    refine zz ?_
    refine MC.ret rfl ?_
    exact ⟨rfl, rt_shut hs⟩
theorem whichOf_cases (A B : Sv) : (whichOf A B = -1 ∧ A.stands = false ∧ B.stands = false) ∨ (whichOf A B = 0 ∧ A.stands = true ∧ (B.stands = true → B.epoch ≤ A.epoch)) ∨ (whichOf A B = 1 ∧ B.stands = true ∧ (A.stands = true → A.epoch < B.epoch)) := by
  obtain ⟨sa, ea, fa⟩ := A
  obtain ⟨sb, eb, fb⟩ := B
  cases sa <;> cases sb <;> simp [whichOf]
  omega
def latestOf (A B : Sv) : Sv := if whichOf A B = 1 then B else if whichOf A B = 0 then A else Sv.no
theorem latest_spec {F : List Assn} {r p : Nat} {at' : Int} {A B : Sv} {w : World} (hs : Sat (rt r p at' A B :: F) w) (hA : A.fields.length ≤ 1000) (hB : B.fields.length ≤ 1000) :
    Ret Tryz.prog 20 [ptr r] w fun v w' => ∃ vf, v = .tuple #[vf, int (latestOf A B).epoch, bool (latestOf A B).stands] ∧ Sat (sl vf 3 1 (latestOf A B).fields.length (intsV (latestOf A B).fields) :: rt r p at' A B :: F) w' := by
  have hwh := which_spec hs
  have hkeep : ∃ va vb, Sat (blk r [ptr p, int at', bool A.stands, int A.epoch, va, bool B.stands, int B.epoch, vb] 82 :: sl va 3 1 A.fields.length (intsV A.fields) :: sl vb 3 1 B.fields.length (intsV B.fields) :: F) w := rt_open hs
  obtain ⟨va0, vb0, hs0⟩ := hkeep
  refine Ret.enter [(true, ptr r)] _ Tryz.func20 rfl Tryz.ntmps20 rfl ?_
  refine zz ?_
  refine MC.la true (la_load1 hs0 rfl (by rfl)) rfl ?_
  refine zz ?_
  refine MC.does true (does_call rfl (hwh)) rfl ?_
  rintro _ w ⟨rfl, hs⟩
  have hc := whichOf_cases A B
  obtain ⟨va, vb, hs⟩ := rt_open hs
  obtain ⟨_, qa, ca, rfl, _⟩ := (hs.pull 1 rfl).sl_len
  obtain ⟨_, qb, cb, rfl, _⟩ := (hs.pull 2 rfl).sl_len
  rcases hc with ⟨e, h1, h2⟩ | ⟨e, h1, h2⟩ | ⟨e, h1, h2⟩
  · rw [show latestOf A B = Sv.no by simp [latestOf, e], e]
    refine zz ?_
    refine MC.ret rfl ?_
    exact ⟨_, rfl, (rt_shut hs).sl_nil _ _⟩
  · rw [show latestOf A B = A by simp [latestOf, e], e, h1]
    have hra := RdS.of_sl hs.tail
    refine zz ?_
    refine MC.draw hs [1,2,3,4,5,6,7,9,10,11,12,13,14,15,0,8,16,17,18] (by rfl) ?_; intro w hs
    refine zd ?_
    refine MC.doesK true (does_buildSlice0 hs) rfl rfl rfl ?_
    rintro _ w ⟨b9, rfl, hs⟩
    refine ⟨(by repeat (first | exact True.intro | refine ⟨At.sat hs, ?_⟩ | refine ⟨Suf.sat hs, ?_⟩ | refine ⟨AtM.sat hs, ?_⟩)), ?_⟩
    have hs := Sat.sl_mk (xs := []) (spare := []) (n := 0) (c := 0) (size := 1) hs (Nat.le_refl _) rfl rfl
    refine MC.doesK true (does_append hs rfl rfl (RdS.src hra (intsV_one _)) (by omega) (by omega)) rfl rfl rfl ?_
    intro v w hs
    refine ⟨(by repeat (first | exact True.intro | refine ⟨At.sat hs, ?_⟩ | refine ⟨Suf.sat hs, ?_⟩ | refine ⟨AtM.sat hs, ?_⟩)), ?_⟩
    rw [Nat.zero_add, List.nil_append] at hs
    refine zd ?_
    refine MC.ret rfl ?_
    refine ⟨_, rfl, ?_⟩
    have hs := hs.pickF 4 [1, 2, 3, 0] rfl rfl
    exact (rt_shut hs).swap
  · rw [show latestOf A B = B by simp [latestOf, e], e, h1]
    have hrb := RdS.of_sl hs.tail.tail
    refine zz ?_
    refine MC.draw hs [1,2,3,4,5,6,7,9,10,11,12,13,14,15,0,8,16,17,18] (by rfl) ?_; intro w hs
    refine zd ?_
    refine MC.doesK true (does_buildSlice0 hs) rfl rfl rfl ?_
    rintro _ w ⟨b9, rfl, hs⟩
    refine ⟨(by repeat (first | exact True.intro | refine ⟨At.sat hs, ?_⟩ | refine ⟨Suf.sat hs, ?_⟩ | refine ⟨AtM.sat hs, ?_⟩)), ?_⟩
    have hs := Sat.sl_mk (xs := []) (spare := []) (n := 0) (c := 0) (size := 1) hs (Nat.le_refl _) rfl rfl
    refine MC.doesK true (does_append hs rfl rfl (RdS.src hrb (intsV_one _)) (by omega) (by omega)) rfl rfl rfl ?_
    intro v w hs
    refine ⟨(by repeat (first | exact True.intro | refine ⟨At.sat hs, ?_⟩ | refine ⟨Suf.sat hs, ?_⟩ | refine ⟨AtM.sat hs, ?_⟩)), ?_⟩
    rw [Nat.zero_add, List.nil_append] at hs
    refine zd ?_
    refine MC.ret rfl ?_
    refine ⟨_, rfl, ?_⟩
    have hs := hs.pickF 4 [1, 2, 3, 0] rfl rfl
    exact (rt_shut hs).swap
end Go.Proofs.YtjlofdodiaklaaaGreat
