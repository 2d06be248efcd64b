/-
  The cache: room, Get, Leave, Forget | Roots: saving | The cache: Get | Roots: opening one | The cache: Forget, Held, New
-/
import Derived.Test.YtjlofdodiaklaaaGreatYap
set_option maxHeartbeats 1000000
set_option linter.unusedVariables false
set_option linter.unusedSimpArgs false
namespace Go.Proofs.YtjlofdodiaklaaaGreat
open Go Go.Sl
attribute [local irreducible] LooksAt

def bufV (l : List Nat) : List Value := l.map fun i => int ((i : Nat) : Int)
@[simp] theorem bufV_length (l : List Nat) : (bufV l).length = l.length := by simp [bufV]
abbrev chn (qc n : Nat) (buf : List Nat) (sn rn : Nat) : Assn := obj qc (.chan n (bufV buf).toArray false sn rn false)
theorem room_spec {F : List Assn} {q pd bl qc n hand sn rn : Nat} {hits misses : Int} {fs : List Frm} {buf : List Nat} {w : World} (hs : Sat (chn qc n buf sn rn :: cblk q pd bl n qc ((hand : Nat) : Int) hits misses :: fblk bl fs :: F) w) (hn : fs.length = n) (hn1 : 1 ≤ n) (hn2 : n ≤ 64) (hh : hand < n) (hp : ∀ f ∈ fs, f.pins = 0) (hb : ∀ i ∈ buf, i < n) :
    Ret Tryz.prog 125 [ptr q] w fun v w' => ∃ (i hand' : Nat) (fs' : List Frm) (buf' : List Nat) (rn' : Nat), i < n ∧ hand' < n ∧ v = .tuple #[int ((i : Nat) : Int), bool true] ∧ ((buf = i :: buf' ∧ fs' = fs) ∨ (buf = [] ∧ buf' = [] ∧ lateOnly fs fs')) ∧
      Sat (chn qc n buf' sn rn' :: cblk q pd bl n qc ((hand' : Nat) : Int) hits misses :: fblk bl fs' :: F) w' := by
  refine Ret.enter [(true, ptr q)] _ Tryz.func125 rfl Tryz.ntmps125 rfl ?_
  refine zz ?_
  refine MC.selectRecv ⟨rfl, rfl, rfl⟩ hs rfl rfl ?_ ?_
  · intro v0 bv hbv w hs
    obtain ⟨i, buf', rfl⟩ : ∃ i buf', buf = i :: buf' := by cases buf with
      | nil => simp [bufV] at hbv
      | cons i b => exact ⟨i, b, rfl⟩
    have e1 : v0 = int ((i : Nat) : Int) := by simp [bufV] at hbv; exact hbv.1.symm
    have e2 : bv = bufV buf' := by simp [bufV] at hbv; rw [← hbv.2]; rfl
    subst e1; subst e2
    refine zz ?_
    refine MC.ret rfl ?_
    exact ⟨i, hand, fs, buf', _, hb i List.mem_cons_self, hh, rfl, .inl ⟨rfl, rfl⟩, hs⟩
  · intro hbn
    have hb0 : buf = [] := by cases buf with
      | nil => rfl
      | cons i b => simp [bufV] at hbn
    subst hb0
    have hsw := sweep_spec (q := q) (hs.pickF 3 [1, 2, 0] rfl rfl) hn hn1 hn2 hh hp
    refine zz ?_
    refine MC.does true (does_call rfl (hsw)) rfl ?_
    rintro _ w ⟨i, hand', fs', hi, hh', hl, rfl, hs⟩
    refine zz ?_
    refine MC.ret rfl ?_
    exact ⟨i, hand', fs', [], _, hi, hh', rfl, .inr ⟨rfl, rfl, hl⟩, hs.pickF 3 [2, 0, 1] rfl rfl⟩
def devr (pd : Nat) (D : Dev) : Assn := Sl.ex fun rd : Int => dev pd { D with reads := rd }
structure Cst where
  bl : Nat
  qc : Nat
  hand : Nat
  hits : Int
  misses : Int
  fs : List Frm
  buf : List Nat
  sn : Nat
  rn : Nat
  pool : List (Value × Bs)
structure Cst.ok (x : Cst) (sec : Nat → Bs) (H : Nat → Prop) (pin : Option Nat) : Prop where
  ca : CaOk x.fs x.buf x.pool sec H pin
  hand : x.hand < x.fs.length
  few : x.fs.length ≤ 64
def cach (q pd : Nat) (sec : Nat → Bs) (H : Nat → Prop) (pin : Option Nat) : Assn := Sl.ex fun x : {x : Cst // x.ok sec H pin} => star [chn x.1.qc x.1.fs.length x.1.buf x.1.sn x.1.rn, cblk q pd x.1.bl x.1.fs.length x.1.qc ((x.1.hand : Nat) : Int) x.1.hits x.1.misses, fblk x.1.bl x.1.fs, bods 5 x.1.pool]
section
variable {F : List Assn} {q pd : Nat} {sec : Nat → Bs} {H : Nat → Prop} {pin : Option Nat} {w : World}
theorem cach_open (hs : Sat (cach q pd sec H pin :: F) w) : ∃ x : Cst, x.ok sec H pin ∧ Sat (chn x.qc x.fs.length x.buf x.sn x.rn :: cblk q pd x.bl x.fs.length x.qc ((x.hand : Nat) : Int) x.hits x.misses :: fblk x.bl x.fs :: bods 5 x.pool :: F) w := by
  obtain ⟨x, hs⟩ := Sat.ex_iff.1 hs
  exact ⟨x.1, x.2, hs.unstar⟩
theorem cach_shut {x : Cst} (hx : x.ok sec H pin) (hs : Sat (chn x.qc x.fs.length x.buf x.sn x.rn :: cblk q pd x.bl x.fs.length x.qc ((x.hand : Nat) : Int) x.hits x.misses :: fblk x.bl x.fs :: bods 5 x.pool :: F) w) : Sat (cach q pd sec H pin :: F) w :=
  Sat.ex_iff.2 ⟨⟨x, hx⟩, Sat.restar (l := [_, _, _, _]) hs⟩
end
theorem leave_spec {F : List Assn} {q pd k : Nat} {sec : Nat → Bs} {H : Nat → Prop} {w : World} (hs : Sat (cach q pd sec H (some k) :: F) w) :
    Ret Tryz.prog 116 [ptr q, int ((k : Nat) : Int)] w fun v w' => v = int 0 ∧ Sat (cach q pd sec H none :: F) w' := by
  obtain ⟨⟨bl, qc, hand, hits, misses, fs, buf, sn, rn, pool⟩, ⟨hca, hha, hfew⟩, hs⟩ := cach_open hs
  dsimp only [] at hca hha hfew hs
  have hcn := cnone_spec (q := q) hs
  have hfi := find_spec (q := q) (fs := fs) hs rfl hfew ((k : Nat) : Int)
  refine Ret.enter [(true, ptr q), (true, int ((k : Nat) : Int))] _ Tryz.func116 rfl Tryz.ntmps116 rfl ?_
  refine zz ?_
  refine MC.does true (does_call rfl (hcn)) rfl ?_
  rintro _ w ⟨rfl, rfl⟩
  refine zz ?_
  refine MC.does true (does_call rfl (hfi)) rfl ?_
  rintro _ w ⟨rfl, ⟨i, hi, hh, hk, rfl⟩ | ⟨hno, rfl⟩⟩
  rotate_left
  · obtain ⟨f, hf, h1, h2⟩ := hca.pinned k rfl
    exact absurd h2 (hno f hf h1)
  obtain ⟨hp1, hca'⟩ := hca.leave hi hh hk
  have h2 : (frsV fs)[i * 5 + 2]? = some (int 1) := by
    have := frs_at (fs := fs) (i := i) (r := 2) hi (by decide)
    rw [Int.toNat_natCast, Nat.zero_add] at this
    rw [this]; show some (int fs[i].pins) = _; rw [hp1]
  refine zz ?_
  refine MC.la true (la_load1 hs rfl h2) rfl ?_
  refine zz ?_
  refine MC.la true (la_load1 hs rfl h2) rfl ?_
  refine zz ?_
  refine MC.does true (does_store1 hs rfl rfl rfl (by rw [frsV_length]; omega)) rfl ?_; intro _ w hs
  rw [frs_set (f' := { fs[i] with pins := 0 }) hi rfl (by decide)] at hs
  refine zz ?_
  refine MC.ret rfl ?_
  refine ⟨rfl, cach_shut (x := ⟨bl, qc, hand, hits, misses, fs.set i { fs[i] with pins := 0 }, buf, sn, rn, pool⟩) ⟨hca', by rw [List.length_set]; exact hha, by rw [List.length_set]; exact hfew⟩ ?_⟩
  show Sat (chn qc (fs.set i { fs[i] with pins := 0 }).length buf sn rn :: cblk q pd bl (fs.set i { fs[i] with pins := 0 }).length qc _ hits misses :: _) w
  rw [List.length_set]
  exact hs
end Go.Proofs.YtjlofdodiaklaaaGreat

namespace Go.Proofs.YtjlofdodiaklaaaGreat
open Go Go.Sl
attribute [local irreducible] LooksAt

theorem number_ok {F : List Assn} {w : World} {vl : Value} {xs : List Int} (hs : Sat F w) (hx : RdS F 1 vl xs.length (intsV xs)) (hl : xs.length ≤ 9223372036854775807) (h : ∀ n ∈ xs, 0 ≤ n ∧ n ≤ 2147483647) :
    Ret Tryz.prog 44 [vl] w fun v w' => v = bool true ∧ w' = w :=
  (number_spec hs hx hl).mono fun v w' ⟨h1, h2⟩ => ⟨by rw [h1, decide_eq_true h], h2⟩
def otherOf (A B : Sv) : Int := if whichOf A B = 0 then 1 else 0
theorem otherOf_cases (A B : Sv) : otherOf A B = 0 ∨ otherOf A B = 1 := by unfold otherOf; split <;> simp
theorem save_spec {F : List Assn} {r p : Nat} {at' : Int} {A B : Sv} {D : Dev} {w : World} {vl : Value} {f : List Int} {epoch : Int} (hs : Sat (rt r p at' A B :: dev p D :: F) w) (hD : D.ok) (hO : D.O.length ≤ 1000)
    (hx : RdS F 1 vl f.length (intsV f)) (hf : f.length ≤ 40) (hfit : ∀ n ∈ f, 0 ≤ n ∧ n ≤ 2147483647) (he : (latestOf A B).epoch < epoch) (he0 : 0 ≤ epoch) (he1 : epoch ≤ 2147483647) (hat0 : 0 ≤ at') (hat1 : at' + 2 ≤ D.S.length)
    (hA : A.fields.length ≤ 1000) (hB : B.fields.length ≤ 1000) :
    Ret Tryz.prog 16 [ptr r, vl, int epoch] w fun v w' =>
      if D.fuse = 1 then v = int 150 ∧ Sat (rt r p at' A B :: dev p D :: F) w'
      else if burnt D.fuse = 1 then v = int 150 ∧ Sat (rt r p at' A B :: dev p (D.write (at' + otherOf A B).toNat (sectorB (otherOf A B) epoch f)) :: F) w'
      else v = int 0 ∧ Sat (rt r p at' (if otherOf A B = 1 then A else ⟨true, epoch, f⟩) (if otherOf A B = 1 then ⟨true, epoch, f⟩ else B) :: dev p (D.write (at' + otherOf A B).toNat (sectorB (otherOf A B) epoch f)).sync :: F) w' := by
  obtain ⟨q, c, rfl, hc, _⟩ := hx.shape
  have hla := latest_spec hs hA hB
  obtain ⟨va0, vb0, hs0⟩ := rt_open hs
  refine Ret.enter [(true, ptr r), (true, .slice q f.length c), (true, int epoch)] _ Tryz.func16 rfl Tryz.ntmps16 rfl ?_
  refine zz ?_
  refine MC.la true (la_load1 hs0 rfl (by rfl)) rfl ?_
  refine zz ?_
  refine MC.does true (does_call rfl (hla)) rfl ?_
  rintro _ w ⟨vf, rfl, hs⟩
  have hs := hs.tail
  refine zz ?_
  refine MC.does true (does_buildL hs rfl rfl rfl (all1 rfl) rfl) rfl ?_; rintro _ w ⟨b1, rfl, hs⟩
  refine zz ?_
  refine MC.does true (does_call rfl (number_ok (xs := [epoch]) hs ⟨_, _, rfl, Nat.le_refl _, rfl, fun _ => ⟨b1, 0, rfl, Rd.of_at⟩⟩ (by simp) (by intro n hn; simp at hn; omega))) rfl ?_
  rintro _ w' ⟨rfl, rfl⟩
  have hs := hs.tail
  refine zz ?_
  refine MC.does true (does_call rfl (number_ok hs hx.up (by omega) hfit)) rfl ?_
  rintro _ w' ⟨rfl, rfl⟩
  refine zz ?_
  refine MC.does true (does_call rfl (which_spec hs)) rfl ?_
  rintro _ w ⟨rfl, hs⟩
  have hkk : otherOf A B = if whichOf A B = 0 then 1 else 0 := rfl
  have hk01 := otherOf_cases A B
  generalize otherOf A B = kk at hkk hk01 ⊢
  refine zz ?_
  refine MC.cutAt 1 [(0, true, ptr r), (1, true, .slice q f.length c), (2, true, int epoch), (10, true, int kk)] (fun w' => Sat (rt r p at' A B :: dev p D :: F) w') rfl (fun w hs => ?_) ?_
  · clear hs0
    obtain ⟨va, vb, hs⟩ := rt_open hs
    obtain ⟨_, qa, ca, rfl, _⟩ := (hs.pull 1 rfl).sl_len
    obtain ⟨_, qb, cb, rfl, _⟩ := (hs.pull 2 rfl).sl_len
    have hkb : 0 ≤ kk ∧ kk ≤ 1 := by omega
    have hsec : (sectorB kk epoch f).length = 256 := sectorB_length hf
    have hfew := hD.few
    (try dsimp only [List.drop_succ_cons, List.drop_zero, List.take_succ_cons, List.take_zero, List.cons_append, List.nil_append])
    refine zz ?_
    refine MC.draw hs [0,1,2,3,4,5,6,7,8,9,10,11,12,13,14,15] (by rfl) ?_; intro w hs
    refine zd ?_
    refine MC.doesK true (does_call rfl (sector_spec kk epoch hs hx.up hf)) rfl rfl rfl ?_
    intro vs w hs
    refine ⟨(by repeat (first | exact True.intro | refine ⟨At.sat hs, ?_⟩ | refine ⟨Suf.sat hs, ?_⟩ | refine ⟨AtM.sat hs, ?_⟩)), ?_⟩
    have hs := hs.pickF 5 [4, 0, 1, 2, 3] rfl rfl
    have hs : Sat (dev p D :: sl vs 5 1 (sectorB kk epoch f).length (bytesV (sectorB kk epoch f)) :: blk r [ptr p, int at', bool A.stands, int A.epoch, .slice qa A.fields.length ca, bool B.stands, int B.epoch, .slice qb B.fields.length cb] 82 :: sl (.slice qa A.fields.length ca) 3 1 A.fields.length (intsV A.fields) :: sl (.slice qb B.fields.length cb) 3 1 B.fields.length (intsV B.fields) :: F) w := by rw [hsec]; exact hs
    have hw := write_spec (k := at' + kk) hs hD (RdS.of_sl hs.tail) (by omega)
    rw [hsec] at hw
    by_cases hf1 : D.fuse = 1
    · have hwr : D.wrong (at' + kk) ((256 : Nat) : Int) = 150 := by
        simp only [Dev.wrong]
        rw [if_neg (by omega), if_neg (by simp), if_pos hf1]
      simp only [hwr] at hw
      refine MC.doesK true (does_call rfl hw) rfl rfl rfl ?_
      rintro _ w ⟨rfl, hs⟩
      refine ⟨(by repeat (first | exact True.intro | refine ⟨At.sat hs, ?_⟩ | refine ⟨Suf.sat hs, ?_⟩ | refine ⟨AtM.sat hs, ?_⟩)), ?_⟩
      refine zz ?_
      refine MC.ret rfl ?_
      have hs := hs.pickF 5 [2, 3, 4, 0] rfl rfl
      rw [if_pos hf1]
      exact ⟨rfl, rt_shut hs⟩
    · have hwr : D.wrong (at' + kk) ((256 : Nat) : Int) = 0 := Dev.wrong_zero.2 ⟨by omega, by omega, rfl, hf1⟩
      simp only [hwr, if_true] at hw
      refine MC.doesK true (does_call rfl hw) rfl rfl rfl ?_
      rintro _ w ⟨rfl, hs⟩
      refine ⟨(by repeat (first | exact True.intro | refine ⟨At.sat hs, ?_⟩ | refine ⟨Suf.sat hs, ?_⟩ | refine ⟨AtM.sat hs, ?_⟩)), ?_⟩
      have hs := hs.pickF 5 [0, 2, 3, 4] rfl rfl
      have hD2 : (D.write (at' + kk).toNat (sectorB kk epoch f)).ok := Dev.write_ok hD (by omega) hsec
      have hD2O : (D.write (at' + kk).toNat (sectorB kk epoch f)).O.length ≤ 100000 := by simp [Dev.write]; omega
      have hD2f : (D.write (at' + kk).toNat (sectorB kk epoch f)).fuse = burnt D.fuse := rfl
      have hD2S : (D.write (at' + kk).toNat (sectorB kk epoch f)).S.length = D.S.length := rfl
      generalize D.write (at' + kk).toNat (sectorB kk epoch f) = E at hs hD2 hD2O hD2f hD2S ⊢
      refine zz ?_
      have hsy := sync_spec hs hD2 hD2O
      by_cases hf2 : burnt D.fuse = 1
      · have hwr2 : E.wrong 0 256 = 150 := by
          simp only [Dev.wrong]
          rw [if_neg (by omega), if_neg (by simp), if_pos (by omega)]
        simp only [hwr2] at hsy
        refine MC.does true (does_call rfl (hsy)) rfl ?_
        rintro _ w ⟨rfl, hs⟩
        refine zz ?_
        refine MC.ret rfl ?_
        have hs := hs.pickF 4 [1, 2, 3, 0] rfl rfl
        rw [if_neg hf1, if_pos hf2]
        exact ⟨rfl, rt_shut hs⟩
      · have hwr2 : E.wrong 0 256 = 0 := Dev.wrong_zero.2 ⟨by omega, by omega, rfl, by omega⟩
        simp only [hwr2, if_true] at hsy
        refine MC.does true (does_call rfl (hsy)) rfl ?_
        rintro _ w ⟨rfl, hs⟩
        refine zz ?_
        refine MC.draw hs [0,1,2,4,7,8,3,5,6,9,10] (by rfl) ?_; intro w hs
        refine zd ?_
        refine MC.doesK true (does_buildSlice0 hs) rfl rfl rfl ?_
        rintro _ w ⟨b9, rfl, hs⟩
        refine ⟨(by repeat (first | exact True.intro | refine ⟨At.sat hs, ?_⟩ | refine ⟨Suf.sat hs, ?_⟩ | refine ⟨AtM.sat hs, ?_⟩)), ?_⟩
        have hs := Sat.sl_mk (xs := []) (spare := []) (n := 0) (c := 0) (size := 1) hs (Nat.le_refl _) rfl rfl
        refine MC.doesK true (does_append hs rfl rfl (RdS.src hx (intsV_one _)) (by omega) (by omega)) rfl rfl rfl ?_
        intro v w hs
        refine ⟨(by repeat (first | exact True.intro | refine ⟨At.sat hs, ?_⟩ | refine ⟨Suf.sat hs, ?_⟩ | refine ⟨AtM.sat hs, ?_⟩)), ?_⟩
        rw [Nat.zero_add, List.nil_append] at hs
        obtain ⟨_, qv, cv, rfl, _⟩ := hs.sl_len
        refine MC.pure (f := true) (po_build (ls := [(0, [bool true]), (1, [int epoch]), (2, [.slice qv f.length cv])]) (out := [bool true, int epoch, .slice qv f.length cv]) rfl rfl ⟨⟨_, rfl, by simp⟩, ⟨_, rfl, by simp⟩, ⟨_, rfl, by simp⟩, trivial⟩ rfl) rfl ?_
        have hcur := hs
        rcases hk01 with rfl | rfl
        · have hs := hcur
          refine zd ?_
          refine MC.doesD true (does_store (vs := [bool true, int epoch, .slice qv f.length cv]) hs rfl rfl rfl rfl (all1 rfl) (by simp)) rfl rfl rfl rfl ?_
          intro _ w hs
          have hs : Sat (sl (.slice qv f.length cv) 3 1 f.length (intsV f) :: dev p E.sync :: blk r [ptr p, int at', bool true, int epoch, .slice qv f.length cv, bool B.stands, int B.epoch, .slice qb B.fields.length cb] 82 :: sl (.slice qa A.fields.length ca) 3 1 A.fields.length (intsV A.fields) :: sl (.slice qb B.fields.length cb) 3 1 B.fields.length (intsV B.fields) :: F) w := hs
          have hs := hs.pickF 5 [2, 0, 4, 1] rfl rfl
          refine zz ?_
          refine MC.ret rfl ?_
          rw [if_neg hf1, if_neg hf2]
          exact ⟨rfl, rt_shut (A := ⟨true, epoch, f⟩) (B := B) hs⟩
        · have hs := hcur
          refine zd ?_
          refine MC.doesD true (does_store (vs := [bool true, int epoch, .slice qv f.length cv]) hs rfl rfl rfl rfl (all1 rfl) (by simp)) rfl rfl rfl rfl ?_
          intro _ w hs
          have hs : Sat (sl (.slice qv f.length cv) 3 1 f.length (intsV f) :: dev p E.sync :: blk r [ptr p, int at', bool A.stands, int A.epoch, .slice qa A.fields.length ca, bool true, int epoch, .slice qv f.length cv] 82 :: sl (.slice qa A.fields.length ca) 3 1 A.fields.length (intsV A.fields) :: sl (.slice qb B.fields.length cb) 3 1 B.fields.length (intsV B.fields) :: F) w := hs
          have hs := hs.pickF 5 [2, 3, 0, 1] rfl rfl
          refine zz ?_
          refine MC.ret rfl ?_
          rw [if_neg hf1, if_neg hf2]
          exact ⟨rfl, rt_shut (A := A) (B := ⟨true, epoch, f⟩) hs⟩
  · (try dsimp only [List.drop_succ_cons, List.drop_zero, List.take_succ_cons, List.take_zero, List.cons_append, List.nil_append])
    refine MC.cond rfl (fun h => ?_) (fun h => ?_)
    · refine zz ?_
      refine MC.meet ⟨rfl, rfl, rfl, ?_, trivial⟩ hs
      exact congrArg (fun n => some (int n)) (by rw [hkk, if_pos h])
    · refine zz ?_
      refine MC.meet ⟨rfl, rfl, rfl, ?_, trivial⟩ hs
      exact congrArg (fun n => some (int n)) (by rw [hkk, if_neg h])
end Go.Proofs.YtjlofdodiaklaaaGreat

namespace Go.Proofs.YtjlofdodiaklaaaGreat
open Go Go.Sl
attribute [local irreducible] LooksAt

theorem devr_open {F : List Assn} {pd : Nat} {D : Dev} {w : World} (hs : Sat (devr pd D :: F) w) : ∃ rd, Sat (dev pd { D with reads := rd } :: F) w := Sat.ex_iff.1 hs
theorem devr_shut {F : List Assn} {pd : Nat} {D : Dev} {rd : Int} {w : World} (hs : Sat (dev pd { D with reads := rd } :: F) w) : Sat (devr pd D :: F) w := Sat.ex_iff.2 ⟨rd, hs⟩
def cgetP (F : List Assn) (q pd k : Nat) (D : Dev) (sec : Nat → Bs) (H : Nat → Prop) (v : Value) (w' : World) : Prop :=
  (∃ vb, v = .tuple #[vb, int 0] ∧ Sat (sl vb 5 1 256 (bytesV (sec k)) :: cach q pd sec H (some k) :: devr pd D :: F) w') ∨
  (D.fuse = 1 ∧ ∃ vb, v = .tuple #[vb, int 150] ∧ Sat (cach q pd sec H none :: devr pd D :: F) w')
theorem frame_splice {fs : List Frm} {i : Nat} {f' : Frm} (hi : i < fs.length) : splice (frsV fs) (0 + ((i : Nat) : Int).toNat * 5) (Frm.row f') = frsV (fs.set i f') := by
  rw [Int.toNat_natCast, Nat.zero_add]
  exact rows_splice (f := Frm.row) (c := 5) (fun _ _ => rfl) hi rfl
theorem frame_splice' {fs : List Frm} {i : Nat} {f' : Frm} (hi : i < fs.length) : splice (frsV fs) (i * 5) (Frm.row f') = frsV (fs.set i f') :=
  rows_splice (f := Frm.row) (c := 5) (fun _ _ => rfl) hi rfl
set_option maxHeartbeats 4000000 in
theorem cget_spec {F : List Assn} {q pd k : Nat} {D : Dev} {sec : Nat → Bs} {H : Nat → Prop} {w : World} (hs : Sat (cach q pd sec H none :: devr pd D :: F) w) (hD : D.ok) (hO : D.O.length ≤ 100000) (hk : k < D.S.length) (hH : H k) (hsec : D.get k = sec k) :
    Ret Tryz.prog 115 [ptr q, int ((k : Nat) : Int)] w fun v w' => cgetP F q pd k D sec H v w' := by
  have hfew2 := hD.few
  have hsl := get_length hD hk
  rw [hsec] at hsl
  obtain ⟨⟨bl, qc, hand, hits, misses, fs, buf, sn, rn, pool⟩, ⟨hca, hha, hfew⟩, hs⟩ := cach_open hs
  dsimp only [] at hca hha hfew hs
  obtain ⟨rd, hs⟩ := devr_open (hs.pickF 5 [4, 0, 1, 2, 3] rfl rfl)
  have hs := hs.pickF 5 [1, 2, 3, 4, 0] rfl rfl
  have hDr : ({ D with reads := rd } : Dev).ok := { hD with }
  have hcn := cnone_spec (q := q) hs
  have hsz := size_spec (p := pd) (hs.pull 4 rfl)
  dsimp only [] at hsz
  have hfi := find_spec (q := q) (fs := fs) hs rfl hfew ((k : Nat) : Int)
  refine Ret.enter [(true, ptr q), (true, int ((k : Nat) : Int))] _ Tryz.func115 rfl Tryz.ntmps115 rfl ?_
  refine zz ?_
  refine MC.does true (does_call rfl (hcn)) rfl ?_
  rintro _ w ⟨rfl, rfl⟩
  refine zz ?_
  refine MC.does true (does_call rfl (hsz)) rfl ?_
  rintro _ w ⟨rfl, rfl⟩
  refine zz ?_
  refine MC.does true (does_call rfl (hfi)) rfl ?_
  rintro _ w ⟨rfl, ⟨i, hi, hh, hks, rfl⟩ | ⟨hno, rfl⟩⟩
  · have hca' := hca.hit hi hh hks
    have hp0 := hca.pins0 _ (List.getElem_mem hi)
    obtain ⟨k', g1, g2, g3, g4⟩ := hca.held _ (List.getElem_mem hi) hh
    obtain rfl : k = k' := by rw [hks] at g1; omega
    have h2 : (frsV fs)[i * 5 + 2]? = some (int 0) := by
      have := frs_at (fs := fs) (i := i) (r := 2) hi (by decide)
      rw [Int.toNat_natCast, Nat.zero_add] at this
      rw [this]; show some (int fs[i].pins) = _; rw [hp0]
    have h4 : (frsV (fs.set i { fs[i] with pins := 1, late := true }))[i * 5 + 4]? = some fs[i].v := by
      have := frs_at (fs := fs.set i { fs[i] with pins := 1, late := true }) (i := i) (r := 4) (by rw [List.length_set]; exact hi) (by decide)
      rw [Int.toNat_natCast, Nat.zero_add] at this
      rw [this, List.getElem_set_self]; rfl
    refine zz ?_
    refine MC.la true (la_load1 hs rfl h2) rfl ?_
    refine zz ?_
    refine MC.does true (does_store1 hs rfl rfl rfl (by rw [frsV_length]; omega)) rfl ?_; intro _ w hs
    rw [frs_set (f' := { fs[i] with pins := 1 }) hi rfl (by decide)] at hs
    refine zz ?_
    refine MC.does true (does_store1 hs rfl rfl rfl (by rw [frsV_length, List.length_set]; omega)) rfl ?_; intro _ w hs
    rw [frs_set (f' := { fs[i] with pins := 1, late := true }) (by rw [List.length_set]; exact hi) (by rw [List.getElem_set_self]; rfl) (by decide), List.set_set] at hs
    refine zg tab rfl rfl ?_
    refine MC.la false (la_load1 hs rfl (by rfl)) rfl ?_
    refine MC.pure (f := true) (po_bin rfl rfl (br_add rfl)) rfl ?_
    refine zz ?_
    refine MC.does true (does_store1 hs rfl rfl rfl (by first | decide | (simp; done) | (simp; omega))) rfl ?_; intro _ w hs
    refine zz ?_
    refine MC.does true (does_buildSlice0 hs) rfl ?_
    rintro _ w ⟨b1, rfl, hs⟩
    have hs := Sat.sl_mk (xs := []) (spare := []) (n := 0) (c := 0) (size := 1) hs (Nat.le_refl _) rfl rfl
    have hpo := bods_rd (hs.pull 4 rfl) g4
    rw [g3] at hpo
    have hpl : RdS (bods 5 pool :: dev pd { D with reads := rd } :: F) 1 fs[i].v (sec k).length (bytesV (sec k)) := by
      have := bods_rd (hs.tail.tail.tail.tail) g4
      rw [g3] at this; exact this
    refine zz ?_
    refine MC.la true (la_load1 hs rfl h4) rfl ?_
    refine zz ?_
    refine MC.does true (does_append hs rfl rfl (RdS.src hpl (bytesV_one _)) (by omega) (by omega)) rfl ?_
    intro vn w hs
    rw [Nat.zero_add, List.nil_append, hsl] at hs
    refine zz ?_
    refine MC.ret rfl ?_
    refine .inl ⟨vn, rfl, ?_⟩
    have hs := hs.pickF 6 [1, 2, 3, 4, 5, 0] rfl rfl
    have hl2 : (fs.set i { fs[i] with pins := 1, late := true }).length = fs.length := List.length_set
    have h5 := cach_shut (q := q) (pd := pd) (x := ⟨bl, qc, hand, _, misses, fs.set i { fs[i] with pins := 1, late := true }, buf, sn, rn, pool⟩) ⟨hca', by rw [List.length_set]; exact hha, by rw [List.length_set]; exact hfew⟩ (by
      show Sat (chn qc (fs.set i { fs[i] with pins := 1, late := true }).length buf sn rn :: cblk q pd bl (fs.set i { fs[i] with pins := 1, late := true }).length qc _ _ misses :: _) w
      rw [hl2]
      exact hs)
    have h6 := devr_shut (D := D) (h5.pickF 3 [1, 0, 2] rfl rfl)
    exact h6.pickF 3 [2, 1, 0] rfl rfl
  · have hbn : ∀ i ∈ buf, i < fs.length := fun i hi => by obtain ⟨h, _⟩ := (hca.free i).1 hi; exact h
    have hroom := room_spec (q := q) hs rfl (by omega) hfew hha hca.pins0 hbn
    refine zz ?_
    refine MC.does true (does_call rfl (hroom)) rfl ?_
    rintro _ w ⟨i, hand', fs', buf', rn', hi, hha', rfl, hcase, hs⟩
    obtain ⟨hl', hhole, hno'⟩ : fs'.length = fs.length ∧ CaHole fs' buf' pool sec H i ∧ ∀ (j : Nat) (h : j < fs'.length), fs'[j].held = true → fs'[j].sec ≠ ((k : Nat) : Int) := by
      rcases hcase with ⟨rfl, rfl⟩ | ⟨rfl, rfl, hlo⟩
      · exact ⟨rfl, hca.holeA, fun j h => hno _ (List.getElem_mem h)⟩
      · refine ⟨hlo.1, hca.holeB hlo, fun j h hh => ?_⟩
        have hj : j < fs.length := by rw [← hlo.1]; exact h
        obtain ⟨b, hb⟩ := hlo.2 j hj h
        rw [hb] at hh ⊢
        exact hno fs[j] (List.getElem_mem hj) hh
    clear hcase hca hno hbn
    have hi' : i < fs'.length := by omega
    have hs := hs.pickF 5 [4, 0, 1, 2, 3] rfl rfl
    have hwr : ({ D with reads := rd } : Dev).wrong ((k : Nat) : Int) 256 = if D.fuse = 1 then 150 else 0 := by
      unfold Dev.wrong
      dsimp only []
      rw [if_neg (by omega), if_neg (by decide)]
    have hgk : ({ D with reads := rd } : Dev).get ((k : Nat) : Int).toNat = sec k := by rw [Int.toNat_natCast]; exact hsec
    have hrd : Ret Tryz.prog 26 [ptr pd, int ((k : Nat) : Int)] w fun v w' => (D.fuse ≠ 1 ∧ ∃ vb, v = .tuple #[vb, int 0] ∧ Sat (sl vb 5 1 256 (bytesV (sec k)) :: dev pd ({ D with reads := rd } : Dev).red :: chn qc fs.length buf' sn rn' :: cblk q pd bl fs.length qc ((hand' : Nat) : Int) hits misses :: fblk bl fs' :: bods 5 pool :: F) w') ∨ (D.fuse = 1 ∧ v = .tuple #[.slice none 0 0, int 150] ∧ Sat (dev pd { D with reads := rd } :: chn qc fs.length buf' sn rn' :: cblk q pd bl fs.length qc ((hand' : Nat) : Int) hits misses :: fblk bl fs' :: bods 5 pool :: F) w') :=
      (read_spec (k := ((k : Nat) : Int)) hs hDr hO).mono fun v w' h => by
        by_cases hf : D.fuse = 1
        · rw [if_pos hf] at hwr
          rw [if_neg (by rw [hwr]; decide), hwr] at h
          exact .inr ⟨hf, h⟩
        · rw [if_neg hf] at hwr
          rw [if_pos hwr, hgk] at h
          exact .inl ⟨hf, h⟩
    rw [← hl'] at hs hi hha' hfew hrd
    refine zz ?_
    refine MC.does true (does_call rfl (hrd)) rfl ?_
    rintro v w (⟨hf, vb, rfl, hs⟩ | ⟨hf, rfl, hs⟩)
    rotate_left
    ·
      have hs := hs.pickF 5 [1, 2, 3, 4, 0] rfl rfl
      refine zz ?_
      refine MC.pure (f := true) (po_build (ls := []) (out := [bool false, int 0, int 0, bool false, .slice none 0 0]) rfl rfl trivial rfl) rfl ?_
      refine zz ?_
      refine MC.does true (does_store (vs := [bool false, int 0, int 0, bool false, .slice none 0 0]) hs rfl rfl rfl rfl (all1 rfl) (by rw [frsV_length, Int.toNat_natCast]; show _ + 5 ≤ _; omega)) rfl ?_
      intro _ w hs
      have e : splice (frsV fs') (0 + ((i : Nat) : Int).toNat * 5) [bool false, int 0, int 0, bool false, .slice none 0 0] = frsV (fs'.set i Frm.zero) := frame_splice (f' := Frm.zero) hi'
      rw [e] at hs
      refine zz ?_
      have hrm := hhole.room hi'
      refine MC.sendField hs rfl rfl (by rw [bufV_length]; exact hrm) rfl rfl rfl fun w hs => ?_
      have e3 : bufV buf' ++ [int ((i : Nat) : Int)] = bufV (buf' ++ [i]) := by simp [bufV]
      rw [e3] at hs
      refine zz ?_
      refine MC.ret rfl ?_
      refine .inr ⟨hf, _, rfl, ?_⟩
      have hl2 : (fs'.set i Frm.zero).length = fs'.length := List.length_set
      have h5 := cach_shut (q := q) (pd := pd) (x := ⟨bl, qc, hand', hits, misses, fs'.set i Frm.zero, buf' ++ [i], _, rn', pool⟩) ⟨hhole.fail hi', by rw [List.length_set]; exact hha', by rw [List.length_set]; exact hfew⟩ (by
        show Sat (chn qc (fs'.set i Frm.zero).length (buf' ++ [i]) _ rn' :: cblk q pd bl (fs'.set i Frm.zero).length qc _ hits misses :: _) w
        rw [hl2]
        exact hs)
      have h6 := devr_shut (D := D) (h5.pickF 2 [1, 0] rfl rfl)
      exact h6.pickF 2 [1, 0] rfl rfl
    · obtain ⟨-, qv, cv, rfl, -⟩ := hs.sl_len
      have hs := hs.pickF 6 [2, 3, 4, 0, 5, 1] rfl rfl
      refine zz ?_
      refine MC.pure (f := true) (po_build (ls := [(0, [bool true]), (1, [int ((k : Nat) : Int)]), (2, [int 1]), (3, [bool true]), (4, [.slice qv 256 cv])]) (out := [bool true, int ((k : Nat) : Int), int 1, bool true, .slice qv 256 cv]) rfl rfl ⟨⟨_, rfl, by simp⟩, ⟨_, rfl, by simp⟩, ⟨_, rfl, by simp⟩, ⟨_, rfl, by simp⟩, ⟨_, rfl, by simp⟩, trivial⟩ rfl) rfl ?_
      refine zz ?_
      refine MC.does true (does_store (vs := [bool true, int ((k : Nat) : Int), int 1, bool true, .slice qv 256 cv]) hs rfl rfl rfl rfl (all1 rfl) (by rw [frsV_length, Int.toNat_natCast]; show _ + 5 ≤ _; omega)) rfl ?_
      intro _ w hs
      have e : splice (frsV fs') (0 + ((i : Nat) : Int).toNat * 5) [bool true, int ((k : Nat) : Int), int 1, bool true, .slice qv 256 cv] = frsV (fs'.set i ⟨true, ((k : Nat) : Int), 1, true, qv, 256, cv, sec k⟩) := frame_splice (f' := ⟨true, ((k : Nat) : Int), 1, true, qv, 256, cv, sec k⟩) hi'
      rw [e] at hs
      refine zg tab rfl rfl ?_
      refine MC.la false (la_load1 hs rfl (by rfl)) rfl ?_
      refine MC.pure (f := true) (po_bin rfl rfl (br_add rfl)) rfl ?_
      refine zz ?_
      refine MC.does true (does_store1 hs rfl rfl rfl (by first | decide | (simp; done) | (simp; omega))) rfl ?_; intro _ w hs
      refine zz ?_
      refine MC.does true (does_buildSlice0 hs) rfl ?_
      rintro _ w ⟨b1, rfl, hs⟩
      have hs := Sat.sl_mk (xs := []) (spare := []) (n := 0) (c := 0) (size := 1) hs (Nat.le_refl _) rfl rfl
      have hpl := RdS.of_sl (hs.tail.tail.tail.tail)
      refine zz ?_
      refine MC.does true (does_append hs rfl rfl (RdS.src hpl (bytesV_one _)) (by omega) (by omega)) rfl ?_
      intro vn w hs
      rw [Nat.zero_add, List.nil_append] at hs
      refine zz ?_
      refine MC.ret rfl ?_
      refine .inl ⟨vn, rfl, ?_⟩
      have hs := hs.pickF 7 [4, 5, 1, 2, 3, 6, 0] rfl rfl
      have e256 : (256 : Nat) = (sec k).length := hsl.symm
      have hs2 : Sat (bods 5 (pool ++ [(.slice qv 256 cv, sec k)]) :: chn qc fs'.length buf' sn rn' :: cblk q pd bl fs'.length qc ((hand' : Nat) : Int) hits (IntKind.i64.wrap (misses + 1)) :: fblk bl (fs'.set i ⟨true, ((k : Nat) : Int), 1, true, qv, 256, cv, sec k⟩) :: dev pd ({ D with reads := rd } : Dev).red :: sl vn 5 1 256 (bytesV (sec k)) :: F) w := by
        refine bods_snoc (v := .slice qv 256 cv) (b := sec k) ?_
        rw [hsl]
        exact hs
      have hl2 : (fs'.set i ⟨true, ((k : Nat) : Int), 1, true, qv, 256, cv, sec k⟩).length = fs'.length := List.length_set
      have h5 := cach_shut (q := q) (pd := pd) (x := ⟨bl, qc, hand', hits, _, fs'.set i ⟨true, ((k : Nat) : Int), 1, true, qv, 256, cv, sec k⟩, buf', sn, rn', pool ++ [(.slice qv 256 cv, sec k)]⟩) ⟨hhole.fill hi' hH hno' qv 256 cv, by rw [List.length_set]; exact hha', by rw [List.length_set]; exact hfew⟩ (by
        show Sat (chn qc (fs'.set i _).length buf' sn rn' :: cblk q pd bl (fs'.set i _).length qc _ hits _ :: _) w
        rw [hl2]
        exact hs2.pickF 4 [1, 2, 3, 0] rfl rfl)
      have h6 := devr_shut (D := D) (rd := IntKind.i64.wrap (rd + 1)) (h5.pickF 3 [1, 0, 2] rfl rfl)
      exact h6.pickF 3 [2, 1, 0] rfl rfl
end Go.Proofs.YtjlofdodiaklaaaGreat

namespace Go.Proofs.YtjlofdodiaklaaaGreat
open Go Go.Sl
attribute [local irreducible] LooksAt

theorem ropen_spec {F : List Assn} {p : Nat} {at' : Int} {D : Dev} {w : World} (hs : Sat (dev p D :: F) w) (hD : D.ok) (hO : D.O.length ≤ 100000) (hat0 : 0 ≤ at') (hat1 : at' + 2 ≤ D.S.length) (hf : D.fuse ≠ 1) :
    Ret Tryz.prog 7 [ptr p, int at'] w fun v w' => ∃ r, v = .tuple #[ptr r, int 0] ∧ Sat (rt r p at' (readS 0 (D.get at'.toNat)) (readS 1 (D.get (at' + 1).toNat)) :: dev p D.red.red :: F) w' := by
  have hfew := hD.few
  obtain ⟨SA, hSA⟩ : ∃ S, S = readS 0 (D.get (at' + 0).toNat) := ⟨_, rfl⟩
  obtain ⟨SB, hSB⟩ : ∃ S, S = readS 1 (D.red.get (at' + 1).toNat) := ⟨_, rfl⟩
  have hSA' : readS 0 (D.get at'.toNat) = SA := by rw [hSA, Int.add_zero]
  have hSB' : readS 1 (D.get (at' + 1).toNat) = SB := hSB.symm
  rw [hSA', hSB']
  refine Ret.enter [(true, ptr p), (true, int at')] _ Tryz.func7 rfl Tryz.ntmps7 rfl ?_
  refine zz ?_
  refine MC.does true (does_call rfl (size_spec hs)) rfl ?_
  rintro _ w' ⟨rfl, rfl⟩
  have hpos := hD.pos
  refine zz ?_
  refine MC.pure (f := true) (po_build (ls := [(0, [ptr p]), (1, [int at'])]) (out := [ptr p, int at', bool false, int 0, .slice none 0 0, bool false, int 0, .slice none 0 0]) rfl rfl ⟨⟨_, rfl, by simp⟩, ⟨_, rfl, by simp⟩, trivial⟩ rfl) rfl ?_
  refine MC.does true (does_box hs rfl rfl) rfl ?_; rintro _ w ⟨r, rfl, hs⟩
  have hs := (((hs.sl_nil 3 1).sl_nil 3 1)).pickF 3 [2, 0, 1] rfl rfl
  have hs := rt_shut (A := Sv.no) (B := Sv.no) hs
  refine zz ?_
  refine MC.loop (σ := Nat) (fun i => [(0, true, ptr p), (1, true, int at'), (7, true, ptr r), (29, true, int ((i : Nat) : Int))])
    (fun i w => i ≤ 2 ∧ Sat (rt r p at' (if 0 < i then SA else Sv.no) (if 1 < i then SB else Sv.no) :: dev p (if i = 0 then D else if i = 1 then D.red else D.red.red) :: F) w) (fun i => 2 - i) 0 (by repeat (first | exact trivial | refine ⟨rfl, ?_⟩)) ⟨by decide, hs⟩ ?_
  rintro i w ⟨hi, hs⟩
  obtain rfl | rfl | rfl : i = 0 ∨ i = 1 ∨ i = 2 := by omega
  · simp only [if_true, show (¬ (0 < 0)) by decide, if_false, show (¬ (1 < 0)) by decide] at hs ⊢
    have hs := hs.swap
    refine zz ?_
    refine MC.does true (does_call rfl (read_ok (k := at' + 0) hs hD hO (Dev.wrong_zero.2 ⟨by omega, by show _ < (D.S.length : Int); omega, rfl, hf⟩))) rfl ?_
    rintro _ w ⟨vb, rfl, hs⟩
    have hgl : (D.get (at' + 0).toNat).length = 256 := get_length hD (by omega)
    have hs : Sat (sl vb 5 1 (D.get (at' + 0).toNat).length (bytesV (D.get (at' + 0).toNat)) :: dev p (D).red :: rt r p at' Sv.no Sv.no :: F) w := by rw [hgl]; exact hs
    obtain ⟨_, qb, cb, rfl, _⟩ := hs.sl_len
    refine zz ?_
    refine MC.draw hs [0,1,2,3,5,6,4,7,8] (by rfl) ?_; intro w hs
    refine zd ?_
    refine MC.doesK true (does_call rfl (read_spec' 0 hs (RdS.of_sl hs) hgl)) rfl rfl rfl ?_
    rw [← hSA]
    rintro _ w ⟨vf, rfl, hs⟩
    refine ⟨(by repeat (first | exact True.intro | refine ⟨At.sat hs, ?_⟩ | refine ⟨Suf.sat hs, ?_⟩ | refine ⟨AtM.sat hs, ?_⟩)), ?_⟩
    have hs := hs.pickF 4 [3, 0, 2] rfl rfl
    obtain ⟨va, vb', hs⟩ := rt_open hs
    obtain ⟨_, qa, ca, rfl, _⟩ := (hs.pull 3 rfl).sl_len
    refine zd ?_
    refine MC.doesD true (does_store (vs := [bool SA.stands, int SA.epoch, .slice qa SA.fields.length ca]) hs rfl rfl rfl rfl (all1 rfl) (by simp)) rfl rfl rfl rfl ?_
    intro _ w hs
    have hs : Sat (blk r [ptr p, int at', bool SA.stands, int SA.epoch, .slice qa SA.fields.length ca, bool false, int 0, vb'] 82 :: sl va 3 1 (Sv.no).fields.length (intsV (Sv.no).fields) :: sl vb' 3 1 (Sv.no).fields.length (intsV (Sv.no).fields) :: sl (.slice qa SA.fields.length ca) 3 1 SA.fields.length (intsV SA.fields) :: dev p (D).red :: F) w := hs
    have hs := hs.pickF 5 [0, 3, 2, 4] rfl rfl
    (try dsimp only [List.eraseIdx, List.cons_append, List.nil_append, List.drop_succ_cons, List.drop_zero, List.append_eq] at hs)
    have hs := rt_shut (A := SA) (B := Sv.no) hs
    refine zz ?_
    exact MC.again 1 (by repeat (first | exact trivial | refine ⟨rfl, ?_⟩)) ⟨by decide, hs⟩ (by decide)
  · simp only [show ¬ (1 = 0) by decide, if_false, if_true, show (0 < 1) by decide, show (¬ (1 < 1)) by decide] at hs ⊢
    have hs := hs.swap
    refine zz ?_
    refine MC.does true (does_call rfl (read_ok (k := at' + 1) hs (Dev.red_ok hD) hO (Dev.wrong_zero.2 ⟨by omega, by show _ < (D.S.length : Int); omega, rfl, hf⟩))) rfl ?_
    rintro _ w ⟨vb, rfl, hs⟩
    have hgl : (D.get (at' + 1).toNat).length = 256 := get_length hD (by omega)
    have hs : Sat (sl vb 5 1 (D.get (at' + 1).toNat).length (bytesV (D.get (at' + 1).toNat)) :: dev p (D.red).red :: rt r p at' SA Sv.no :: F) w := by rw [hgl]; exact hs
    obtain ⟨_, qb, cb, rfl, _⟩ := hs.sl_len
    refine zz ?_
    refine MC.draw hs [0,1,2,3,5,6,4,7,8] (by rfl) ?_; intro w hs
    refine zd ?_
    refine MC.doesK true (does_call rfl (read_spec' 1 hs (RdS.of_sl hs) hgl)) rfl rfl rfl ?_
    rw [hSB']
    rintro _ w ⟨vf, rfl, hs⟩
    refine ⟨(by repeat (first | exact True.intro | refine ⟨At.sat hs, ?_⟩ | refine ⟨Suf.sat hs, ?_⟩ | refine ⟨AtM.sat hs, ?_⟩)), ?_⟩
    have hs := hs.pickF 4 [3, 0, 2] rfl rfl
    obtain ⟨va, vb', hs⟩ := rt_open hs
    obtain ⟨_, qa, ca, rfl, _⟩ := (hs.pull 3 rfl).sl_len
    refine zd ?_
    refine MC.doesD true (does_store (vs := [bool SB.stands, int SB.epoch, .slice qa SB.fields.length ca]) hs rfl rfl rfl rfl (all1 rfl) (by simp)) rfl rfl rfl rfl ?_
    intro _ w hs
    have hs : Sat (blk r [ptr p, int at', bool SA.stands, int SA.epoch, va, bool SB.stands, int SB.epoch, .slice qa SB.fields.length ca] 82 :: sl va 3 1 (SA).fields.length (intsV (SA).fields) :: sl vb' 3 1 (Sv.no).fields.length (intsV (Sv.no).fields) :: sl (.slice qa SB.fields.length ca) 3 1 SB.fields.length (intsV SB.fields) :: dev p (D.red).red :: F) w := hs
    have hs := hs.pickF 5 [0, 1, 3, 4] rfl rfl
    (try dsimp only [List.eraseIdx, List.cons_append, List.nil_append, List.drop_succ_cons, List.drop_zero, List.append_eq] at hs)
    have hs := rt_shut (A := SA) (B := SB) hs
    refine zz ?_
    exact MC.again 2 (by repeat (first | exact trivial | refine ⟨rfl, ?_⟩)) ⟨by decide, hs⟩ (by decide)
  · simp only [show ¬ (2 = 0) by decide, show ¬ (2 = 1) by decide, if_false, if_true, show (0 < 2) by decide, show (1 < 2) by decide] at hs
    refine zz ?_
    refine MC.ret rfl ?_
    exact ⟨r, rfl, hs⟩
end Go.Proofs.YtjlofdodiaklaaaGreat

namespace Go.Proofs.YtjlofdodiaklaaaGreat
open Go Go.Sl
attribute [local irreducible] LooksAt

theorem cach_less {F : List Assn} {q pd : Nat} {sec sec' : Nat → Bs} {H H' : Nat → Prop} {pin : Option Nat} {w : World} (h : ∀ k, H k → H' k ∧ sec k = sec' k) (hs : Sat (cach q pd sec H pin :: F) w) : Sat (cach q pd sec' H' pin :: F) w := by
  obtain ⟨x, hx, hs⟩ := cach_open hs
  exact cach_shut (x := x) ⟨hx.ca.less fun f _ _ k _ hk => h k hk, hx.hand, hx.few⟩ hs
theorem forget_spec {F : List Assn} {q pd k : Nat} {sec : Nat → Bs} {H : Nat → Prop} {w : World} (hs : Sat (cach q pd sec H none :: F) w) :
    Ret Tryz.prog 50 [ptr q, int ((k : Nat) : Int)] w fun _ w' => Sat (cach q pd sec (fun x => H x ∧ x ≠ k) none :: F) w' := by
  obtain ⟨⟨bl, qc, hand, hits, misses, fs, buf, sn, rn, pool⟩, ⟨hca, hha, hfew⟩, hs⟩ := cach_open hs
  dsimp only [] at hca hha hfew hs
  have hcn := cnone_spec (q := q) hs
  have hfi := find_spec (q := q) (fs := fs) hs rfl hfew ((k : Nat) : Int)
  refine Ret.enter [(true, ptr q), (true, int ((k : Nat) : Int))] _ Tryz.func50 rfl Tryz.ntmps50 rfl ?_
  refine zz ?_
  refine MC.does true (does_call rfl (hcn)) rfl ?_
  rintro _ w ⟨rfl, rfl⟩
  refine zz ?_
  refine MC.does true (does_call rfl (hfi)) rfl ?_
  rintro _ w ⟨rfl, ⟨i, hi, hh, hks, rfl⟩ | ⟨hno, rfl⟩⟩
  · have hp0 := hca.pins0 _ (List.getElem_mem hi)
    have h2 : (frsV fs)[i * 5 + 2]? = some (int 0) := by
      have := frs_at (fs := fs) (i := i) (r := 2) hi (by decide)
      rw [Int.toNat_natCast, Nat.zero_add] at this
      rw [this]; show some (int fs[i].pins) = _; rw [hp0]
    refine zz ?_
    refine MC.la true (la_load1 hs rfl h2) rfl ?_
    refine zz ?_
    refine MC.pure (f := true) (po_build (ls := []) (out := [bool false, int 0, int 0, bool false, .slice none 0 0]) rfl rfl trivial rfl) rfl ?_
    refine zz ?_
    refine MC.does true (does_store (vs := [bool false, int 0, int 0, bool false, .slice none 0 0]) hs rfl rfl rfl rfl (all1 rfl) (by rw [frsV_length]; show _ + 5 ≤ _; omega)) rfl ?_
    intro _ w hs
    have e : splice (frsV fs) (i * 5) [bool false, int 0, int 0, bool false, .slice none 0 0] = frsV (fs.set i Frm.zero) := frame_splice' (f' := Frm.zero) hi
    rw [e] at hs
    refine zz ?_
    have hrm := (hca.hole hi hh).room hi
    refine MC.sendField hs rfl rfl (by rw [bufV_length]; exact hrm) rfl rfl rfl fun w hs => ?_
    have e3 : bufV buf ++ [int ((i : Nat) : Int)] = bufV (buf ++ [i]) := by simp [bufV]
    rw [e3] at hs
    refine zz ?_
    refine MC.ret rfl ?_
    have hl2 : (fs.set i Frm.zero).length = fs.length := List.length_set
    exact cach_shut (q := q) (pd := pd) (x := ⟨bl, qc, hand, hits, misses, fs.set i Frm.zero, buf ++ [i], _, rn, pool⟩) ⟨hca.forget hi hh hks, by rw [List.length_set]; exact hha, by rw [List.length_set]; exact hfew⟩ (by
      show Sat (chn qc (fs.set i Frm.zero).length (buf ++ [i]) _ rn :: cblk q pd bl (fs.set i Frm.zero).length qc _ hits misses :: _) w
      rw [hl2]
      exact hs)
  · refine zz ?_
    refine MC.ret rfl ?_
    exact cach_shut (q := q) (pd := pd) (x := ⟨bl, qc, hand, hits, misses, fs, buf, sn, rn, pool⟩) ⟨hca.less fun f hf hh k' e hk => ⟨⟨hk, fun e' => by subst e'; exact hno f hf hh e⟩, rfl⟩, hha, hfew⟩ hs
theorem held_spec {F : List Assn} {q pd : Nat} {sec : Nat → Bs} {H : Nat → Prop} {w : World} (hs : Sat (cach q pd sec H none :: F) w) :
    Ret Tryz.prog 24 [ptr q] w fun v w' => ∃ a n c, v = .slice a n c ∧ 0 < n ∧ Sat (cach q pd sec H none :: F) w' := by
  obtain ⟨⟨bl, qc, hand, hits, misses, fs, buf, sn, rn, pool⟩, hx, hs⟩ := cach_open hs
  obtain ⟨hca, hha, hfew⟩ := id hx
  dsimp only [] at hca hha hfew hs
  have hcn := cnone_spec (q := q) hs
  refine Ret.enter [(true, ptr q)] _ Tryz.func24 rfl Tryz.ntmps24 rfl ?_
  refine zz ?_
  refine MC.does true (does_call rfl (hcn)) rfl ?_
  rintro _ w ⟨rfl, rfl⟩
  refine zz ?_
  have hs := hs.sl_nil 3 1
  refine MC.loop (σ := Nat × Value × List Value) (fun x => [(0, true, ptr q), (3, true, x.2.1), (11, true, .slice (some ⟨bl, 0, none⟩) fs.length fs.length), (12, true, int ((fs.length : Nat) : Int)), (13, true, int ((x.1 : Nat) : Int))])
    (fun x w => x.1 ≤ fs.length ∧ Sat (sl x.2.1 3 1 x.1 x.2.2 :: chn qc fs.length buf sn rn :: cblk q pd bl fs.length qc ((hand : Nat) : Int) hits misses :: fblk bl fs :: bods 5 pool :: F) w) (fun x => fs.length - x.1) (0, .slice none 0 0, []) (by repeat (first | exact trivial | refine ⟨rfl, ?_⟩)) ⟨Nat.zero_le _, hs⟩ ?_
  clear hs
  rintro ⟨i, vo, xs⟩ w ⟨hi, hs⟩
  dsimp only [] at hi hs ⊢
  obtain ⟨-, qo, co, rfl, -⟩ := hs.sl_len
  rcases Nat.lt_or_ge i fs.length with hlt | hge
  · have hrow : ((frsV fs).drop (0 + ((i : Nat) : Int).toNat * 5)).take 5 = Frm.row fs[i] := by
      rw [Int.toNat_natCast, Nat.zero_add]
      exact rows_get (f := Frm.row) (c := 5) (xs := fs) (fun _ _ => rfl) hlt
    obtain ⟨f, hf⟩ : ∃ f, fs[i] = f := ⟨_, rfl⟩
    obtain ⟨held, sec, pins, late, qa, ln, cp, bb⟩ := f
    rw [hf] at hrow
    refine zz ?_
    refine MC.la true (la_loadV hs rfl (vs := [bool held, int sec, int pins, bool late, .slice qa ln cp]) hrow rfl rfl) rfl ?_
    refine MC.does true (does_alloc hs) rfl ?_
    rintro _ w ⟨b4, rfl, hs⟩
    refine zz ?_
    refine MC.does true (does_store (vs := [bool held, int sec, int pins, bool late, .slice qa ln cp]) hs rfl rfl rfl rfl (all1 rfl) (by simp)) rfl ?_
    intro _ w hs
    rw [splice_all (by rfl)] at hs
    refine MC.go1 tab rfl rfl ?_
    refine MC.la false (la_load1 hs rfl (by rfl)) rfl ?_
    refine zg tab rfl rfl ?_
    cases held
    · refine MC.condB (b := false) rfl (fun h => absurd h (by decide)) (fun _ => ?_)
      refine zz ?_
      refine MC.does true (does_buildL hs rfl rfl rfl (all1 rfl) rfl) rfl ?_; rintro _ w ⟨b5, rfl, hs⟩
      refine MC.does true (does_append hs rfl rfl (src_at rfl (all1 rfl)) (by omega) (by omega)) rfl ?_
      intro va w hs
      refine zz ?_
      exact MC.again (i + 1, va, _) (by repeat (first | exact trivial | refine ⟨rfl, ?_⟩)) ⟨hlt, hs.tail.tail⟩ (by show fs.length - (i + 1) < fs.length - i; omega)
    · refine MC.condB (b := true) rfl (fun _ => ?_) (fun h => absurd h (by decide))
      refine zz ?_
      refine MC.does true (does_buildL hs rfl rfl rfl (all1 rfl) rfl) rfl ?_; rintro _ w ⟨b5, rfl, hs⟩
      refine MC.does true (does_append hs rfl rfl (src_at rfl (all1 rfl)) (by omega) (by omega)) rfl ?_
      intro va w hs
      refine zz ?_
      exact MC.again (i + 1, va, _) (by repeat (first | exact trivial | refine ⟨rfl, ?_⟩)) ⟨hlt, hs.tail.tail⟩ (by show fs.length - (i + 1) < fs.length - i; omega)
  · obtain rfl : i = fs.length := by omega
    refine zz ?_
    refine MC.ret rfl ?_
    exact ⟨qo, fs.length, co, rfl, by omega, cach_shut hx hs.tail⟩
instance chanU : TyU Tryz.prog 70 (.chan .both 3) := ⟨Tryz.underlying70⟩
theorem rep_frames (n : Nat) : rep n (Frm.row Frm.zero) = frsV (List.replicate n Frm.zero) := rep_flatMap Frm.row n Frm.zero
theorem cnew_spec {F : List Assn} {pd : Nat} {D : Dev} {sec : Nat → Bs} {w : World} (hs : Sat (dev pd D :: F) w) (hD : D.ok) :
    Ret Tryz.prog 5 [ptr pd, int 5] w fun v w' => ∃ q, v = .tuple #[ptr q, int 0] ∧ Sat (cach q pd sec (fun _ => False) none :: dev pd D :: F) w' := by
  have hpos := hD.pos
  have hsz := size_spec hs
  refine Ret.enter [(true, ptr pd), (true, int 5)] _ Tryz.func5 rfl Tryz.ntmps5 rfl ?_
  refine zz ?_
  refine MC.does true (does_call rfl (hsz)) rfl ?_
  rintro _ w ⟨rfl, rfl⟩
  refine zz ?_
  refine MC.cutAtS (σ := Nat × Nat × Nat) 1 (fun x => [(1, true, int 5), (6, true, ptr x.2.2)]) (fun x w => Sat (cblk x.2.2 pd x.1 5 x.2.1 0 0 0 :: chn x.2.1 5 [] 0 0 :: fblk x.1 (List.replicate 5 Frm.zero) :: dev pd D :: F) w) rfl ?_ ?_
  rotate_left
  · (try dsimp only [List.drop_succ_cons, List.drop_zero, List.take_succ_cons, List.take_zero, List.cons_append, List.nil_append])
    refine MC.draw hs [0,1,3,2,4,5,6,7] (by rfl) ?_; intro w hs
    have er : rep 5 [bool false, int 0, int 0, bool false, .slice none 0 0] = frsV (List.replicate 5 Frm.zero) := rep_frames 5
    refine zd ?_
    refine MC.fork 4 [2, 5, 6, 7] rfl rfl (does_makeSliceI 5 5 hs rfl rfl rfl rfl (Nat.le_refl _) (by omega) (by omega)) (does_makeChan (n := 5) hs rfl (by omega) (by omega)) ?_ ?_
    · rintro _ w ⟨bl, rfl, hs⟩
      refine zh ?_
      rw [er] at hs
      refine zd ?_
      refine MC.doesK true (does_makeChan (n := 5) hs rfl (by omega) (by omega)) rfl rfl rfl ?_
      rintro _ w ⟨qc, rfl, hs⟩
      refine zh ?_
      refine zd ?_
      refine MC.pure (f := true) (po_build (ls := [(0, [ptr pd]), (1, [.slice (some ⟨bl, 0, none⟩) 5 5]), (2, [.chan (some qc)])]) (out := [ptr pd, .slice (some ⟨bl, 0, none⟩) 5 5, .chan (some qc), int 0, int 0, int 0]) rfl rfl ⟨⟨_, rfl, by simp⟩, ⟨_, rfl, by simp⟩, ⟨_, rfl, by simp⟩, trivial⟩ rfl) rfl ?_
      refine MC.doesK true (does_box hs rfl rfl) rfl rfl rfl ?_
      rintro _ w ⟨q, rfl, hs⟩
      refine zh ?_
      refine zd ?_
      exact MC.meetS (bl, qc, q) (by repeat (first | exact trivial | refine ⟨rfl, ?_⟩)) hs
    · rintro _ w ⟨qc, rfl, hs⟩
      refine zh ?_
      refine zd ?_
      refine MC.doesK true (does_makeSliceI 5 5 hs rfl rfl rfl rfl (Nat.le_refl _) (by omega) (by omega)) rfl rfl rfl ?_
      rintro _ w ⟨bl, rfl, hs⟩
      refine zh ?_
      rw [er] at hs
      refine zd ?_
      refine MC.pure (f := true) (po_build (ls := [(0, [ptr pd]), (1, [.slice (some ⟨bl, 0, none⟩) 5 5]), (2, [.chan (some qc)])]) (out := [ptr pd, .slice (some ⟨bl, 0, none⟩) 5 5, .chan (some qc), int 0, int 0, int 0]) rfl rfl ⟨⟨_, rfl, by simp⟩, ⟨_, rfl, by simp⟩, ⟨_, rfl, by simp⟩, trivial⟩ rfl) rfl ?_
      refine MC.doesK true (does_box hs rfl rfl) rfl rfl rfl ?_
      rintro _ w ⟨q, rfl, hs⟩
      refine zh ?_
      refine zd ?_
      exact MC.meetS (bl, qc, q) (by repeat (first | exact trivial | refine ⟨rfl, ?_⟩)) (hs.pickF 4 [0, 2, 1, 3] rfl rfl)
  clear hs hsz
  rintro ⟨bl, qc, q⟩ w hs
  (try dsimp only [List.drop_succ_cons, List.drop_zero, List.take_succ_cons, List.take_zero, List.cons_append, List.nil_append])
  dsimp only [] at hs ⊢
  refine zz ?_
  have hs := hs.swap
  refine MC.loop (σ := Nat × Nat) (fun x => [(6, true, ptr q), (26, true, int 5), (27, true, int ((x.1 : Nat) : Int))]) (fun x w => x.1 ≤ 5 ∧ Sat (chn qc 5 (List.range x.1) x.2 0 :: cblk q pd bl 5 qc 0 0 0 :: fblk bl (List.replicate 5 Frm.zero) :: dev pd D :: F) w) (fun x => 5 - x.1) (0, 0) (by repeat (first | exact trivial | refine ⟨rfl, ?_⟩)) ⟨by decide, hs⟩ ?_
  clear hs
  rintro ⟨i, sn⟩ w ⟨hi, hs⟩
  dsimp only [] at hi hs ⊢
  rcases Nat.lt_or_ge i 5 with hlt | hge
  · refine zz ?_
    refine MC.sendField hs rfl rfl (by rw [bufV_length, List.length_range]; exact hlt) rfl rfl rfl fun w hs => ?_
    have e3 : bufV (List.range i) ++ [int ((i : Nat) : Int)] = bufV (List.range (i + 1)) := by rw [List.range_succ]; simp [bufV]
    rw [e3] at hs
    refine zz ?_
    exact MC.again (i + 1, sn + 1) (by repeat (first | exact trivial | refine ⟨rfl, ?_⟩)) ⟨hlt, hs⟩ (by show 5 - (i + 1) < 5 - i; omega)
  · obtain rfl : i = 5 := by omega
    refine zz ?_
    refine MC.ret rfl ?_
    refine ⟨q, rfl, cach_shut (q := q) (pd := pd) (x := ⟨bl, qc, 0, 0, 0, List.replicate 5 Frm.zero, List.range 5, sn, 0, []⟩) ⟨CaOk.new 5, (by decide : 0 < (List.replicate 5 Frm.zero).length), (by decide : (List.replicate 5 Frm.zero).length ≤ 64)⟩ ?_⟩
    exact (bods_nil (t := 5) hs).pickF 5 [1, 2, 3, 0, 4] rfl rfl
end Go.Proofs.YtjlofdodiaklaaaGreat
