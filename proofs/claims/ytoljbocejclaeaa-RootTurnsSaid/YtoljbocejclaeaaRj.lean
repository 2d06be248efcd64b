/- Lists of lists of numbers, as a row hands them in; the plain law of a torn sector. -/
import Derived.Test.YtoljbocejclaeaaRi
set_option linter.unusedVariables false
set_option linter.unusedSimpArgs false
namespace Go.Proofs.Ytoljbocejclaeaa
open Go Go.Sl Go.ChangeShapes Go.WideShapes
attribute [local irreducible] LooksAt

structure LsR where
  q : Option Addr
  c : Nat
  l : List Int
instance : Inhabited LsR := ⟨⟨none, 0, []⟩⟩
def LsR.row (y : LsR) : List Value := [.slice y.q y.l.length y.c]
structure LsR.ok (F : List Assn) (y : LsR) : Prop where
  h : RdS F 1 (.slice y.q y.l.length y.c) y.l.length (intsV y.l)
theorem ls_dec {H : Type} {enc : TypeId × Value → H} {W : World} (n : Nat) (cs : List Value) (x : DataW H × List MemPlace) (h : DataW.trod enc Try.prog W 0 (fun _ => true) true n 31 cs = some x) : ∃ y : LsR, cs = y.row ∧ y.row.length = 1 ∧ y.ok [old W] := by
  obtain ⟨q, c, l, rfl, _, _, _, hr⟩ := open_ints_rd Try.underlying31 Try.underlying3 (by kernel_rfl) h
  exact ⟨⟨q, c, l⟩, rfl, rfl, ⟨hr⟩⟩
theorem rows1_get {α : Type} (row : α → List Value) (f : α → Value) (hrow : ∀ y, row y = [f y]) (ls : List α) (i : Nat) (h : i < ls.length) : (ls.flatMap row)[((i : Nat) : Int).toNat * 1]? = some (f ls[i]) := by
  rw [Int.toNat_natCast, Nat.mul_one]
  have e : ls.flatMap row = ls.map f := by
    have : row = fun y => [f y] := funext hrow
    rw [this, flat_one]
  rw [e]; simp [h]
theorem ints_ok {F : List Assn} {w : World} {va vb : Value} {l m : List Int} (hs : Sat F w) (hl : RdS F 1 va l.length (intsV l)) (hm : RdS F 1 vb m.length (intsV m)) (hb : l.length ≤ 9223372036854775807) (h : l = m) :
    Ret Try.prog 30 [va, vb] w fun v w' => v = bool true ∧ Sat F w' :=
  (ints_spec hs hl hm hb).mono fun v w' ⟨h1, h2⟩ => ⟨by rw [h1, decide_eq_true h], h2⟩
theorem ropen_coh {F : List Assn} {p : Nat} {A B : Sv} {D : Dev} {w : World} (hs : Sat (dev p D :: F) w) (hC : Coh D A B) :
    Ret Try.prog 26 [ptr p, int 1] w fun v w' => ∃ r, v = .tuple #[ptr r, int 0] ∧ Sat (rt r p 1 A B :: dev p D.red.red :: F) w' := by
  have := ropen_spec (at' := 1) hs hC.ok (by rw [hC.noO]; decide) (by decide) (by rw [hC.len]; decide) (by rw [hC.fuse]; decide)
  rwa [hC.readA, hC.readB] at this
/-! #### A torn sector -/
structure Enc4 (l : List UInt8) (e : Int) : Prop where
  len : l.length = 256
  h0 : ((l.getD 0 0).toNat : Int) = e
  h1 : l.getD 1 0 = 0
  h2 : l.getD 2 0 = 0
  h3 : l.getD 3 0 = 0
  t0 : ((l.getD 252 0).toNat : Int) = e
  t1 : l.getD 253 0 = 0
  t2 : l.getD 254 0 = 0
  t3 : l.getD 255 0 = 0
theorem le4_small {e : Int} (h0 : 0 ≤ e) (h1 : e ≤ 255) : le4 e = [byteOf e, 0, 0, 0] := by
  have e1 : e / 256 = 0 := by omega
  have e2 : e / 65536 = 0 := by omega
  have e3 : e / 16777216 = 0 := by omega
  simp only [le4, e1, e2, e3]
  rfl
theorem getD_app (pre rest : List UInt8) (k j : Nat) (h : pre.length = k) : (pre ++ rest).getD (k + j) 0 = rest.getD j 0 := by
  subst h
  simp only [List.getD_eq_getElem?_getD]
  rw [List.getElem?_append_right (by omega), Nat.add_sub_cancel_left]
theorem sectorB_tail (which epoch : Int) (f : List Int) : sectorB which epoch f = (bodyB which epoch f ++ le4 (sumOf (bodyB which epoch f))) ++ (le4 epoch ++ []) := by
  unfold sectorB
  simp only [List.flatMap_cons, List.flatMap_nil, List.append_assoc]
theorem sectorB_pre {which epoch : Int} {f : List Int} (hf : f.length ≤ 40) : (bodyB which epoch f ++ le4 (sumOf (bodyB which epoch f))).length = 252 := by
  rw [List.length_append, bodyB_length hf, le4_length]
theorem enc4_sector {which epoch : Int} {f : List Int} (hf : f.length ≤ 40) (h0 : 0 ≤ epoch) (h1 : epoch ≤ 255) : Enc4 (sectorB which epoch f) epoch := by
  have hl := sectorB_length (which := which) (epoch := epoch) hf
  have hb := byteOf_toNat epoch
  have hb2 : ((byteOf epoch).toNat : Int) = epoch := by omega
  obtain ⟨P, hP⟩ := sectorB_eq which epoch f
  have hT := sectorB_tail which epoch f
  rw [le4_small h0 h1] at hP
  have hpre := sectorB_pre (which := which) (epoch := epoch) hf
  have ht : ∀ j, (sectorB which epoch f).getD (252 + j) 0 = (le4 epoch ++ []).getD j 0 := fun j => by rw [hT]; exact getD_app _ _ _ _ hpre
  rw [le4_small h0 h1] at ht
  refine ⟨hl, ?_, ?_, ?_, ?_, ?_, ?_, ?_, ?_⟩
  · rw [hP]; exact hb2
  · rw [hP]; rfl
  · rw [hP]; rfl
  · rw [hP]; rfl
  · rw [ht 0]; exact hb2
  · rw [ht 1]; rfl
  · rw [ht 2]; rfl
  · rw [ht 3]; rfl
theorem many_getD (n j : Nat) : (many n 0).getD j 0 = 0 := by
  simp only [many, List.getD_eq_getElem?_getD, List.getElem?_replicate]
  split <;> rfl
theorem enc4_enc {which : Int} {S : Sv} (h : S.ok) (h1 : S.epoch ≤ 255) : Enc4 (encS which S) S.epoch := by
  unfold encS; split
  · rename_i e
    have := h.lo e
    exact enc4_sector h.few (by omega) h1
  · rename_i e
    have : S = Sv.no := h.no (by simpa using e)
    subst this
    exact ⟨by simp, by rw [many_getD]; rfl, many_getD _ _, many_getD _ _, many_getD _ _, by rw [many_getD]; rfl, many_getD _ _, many_getD _ _, many_getD _ _⟩
theorem mix_getD {a b : List UInt8} (ha : a.length = 256) {m : Nat} (hm : m ≤ 256) (j : Nat) : (a.take m ++ b.drop m).getD j 0 = if j < m then a.getD j 0 else b.getD j 0 := by
  simp only [List.getD_eq_getElem?_getD]
  split
  · rename_i h
    rw [List.getElem?_append_left (by rw [List.length_take]; omega), List.getElem?_take, if_pos h]
  · rename_i h
    rw [List.getElem?_append_right (by rw [List.length_take]; omega), List.length_take, List.getElem?_drop]
    rw [show m + (j - min m a.length) = j by omega]
theorem mix_read {which : Int} {N O : Sv} (hN : N.ok) (hO : O.ok) (hs : N.stands = true) (hn : N.epoch ≤ 255) (ho : O.epoch < N.epoch) {m : Nat} (hm : m ≤ 256) :
    readS which ((encS which N).take m ++ (encS which O).drop m) = N ∨ readS which ((encS which N).take m ++ (encS which O).drop m) = O ∨ readS which ((encS which N).take m ++ (encS which O).drop m) = Sv.no := by
  have hn1 := hN.lo hs
  have eN := enc4_enc (which := which) hN hn
  have eO := enc4_enc (which := which) hO (by omega)
  have rN := read_enc (which := which) hN
  have rO := read_enc (which := which) hO
  generalize encS which N = a at eN rN
  generalize encS which O = b at eO rO
  have hg := fun j => mix_getD (b := b) eN.len hm j
  have hml : (a.take m ++ b.drop m).length = 256 := by rw [List.length_append, List.length_take, List.length_drop, eN.len, eO.len]; omega
  rcases Nat.eq_zero_or_pos m with rfl | hpos
  · right; left
    rw [List.take_zero, List.drop_zero, List.nil_append, rO]
  rcases Nat.lt_or_ge 252 m with hb | hb
  · left
    have e : a.take m ++ b.drop m = a := by
      apply List.ext_getElem
      · rw [hml, eN.len]
      intro j h1 h2
      have := hg j
      rw [List.getD_eq_getElem?_getD, List.getD_eq_getElem?_getD, List.getD_eq_getElem?_getD, List.getElem?_eq_getElem h1, List.getElem?_eq_getElem h2, List.getElem?_eq_getElem (show j < b.length by rw [eO.len, ← eN.len]; exact h2)] at this
      simp only [Option.getD_some] at this
      rw [this]
      split
      · rfl
      · have h3 : j = 253 ∨ j = 254 ∨ j = 255 := by have := eN.len; omega
        have f1 := eN.t1; have f2 := eN.t2; have f3 := eN.t3
        have g1 := eO.t1; have g2 := eO.t2; have g3 := eO.t3
        rw [List.getD_eq_getElem?_getD, List.getElem?_eq_getElem (by have := eN.len; omega)] at f1 f2 f3
        rw [List.getD_eq_getElem?_getD, List.getElem?_eq_getElem (by have := eO.len; omega)] at g1 g2 g3
        simp only [Option.getD_some] at f1 f2 f3 g1 g2 g3
        rcases h3 with rfl | rfl | rfl
        · rw [f1, g1]
        · rw [f2, g2]
        · rw [f3, g3]
    rw [e, rN]
  · right; right
    have z : ∀ (c d : UInt8) (q : Prop) [Decidable q], c = 0 → d = 0 → (if q then c else d) = 0 := fun c d q _ h1 h2 => by split <;> assumption
    have k0 : get4 (a.take m ++ b.drop m) 0 = N.epoch := by
      simp only [get4, hg]
      rw [if_pos hpos, z _ _ (0 + 1 < m) eN.h1 eO.h1, z _ _ (0 + 2 < m) eN.h2 eO.h2, z _ _ (0 + 3 < m) eN.h3 eO.h3, eN.h0]
      simp
    have k1 : get4 (a.take m ++ b.drop m) 252 = O.epoch := by
      simp only [get4, hg]
      rw [if_neg (show ¬ (252 < m) by omega), z _ _ (252 + 1 < m) eN.t1 eO.t1, z _ _ (252 + 2 < m) eN.t2 eO.t2, z _ _ (252 + 3 < m) eN.t3 eO.t3, eO.t0]
      simp
    have : ¬ Good which (a.take m ++ b.drop m) := fun h => by
      obtain ⟨h1, h2, h3, h4, h5⟩ := h
      rw [k0] at h5
      have hfl := fieldsOf_length (a.take m ++ b.drop m) (nOf (a.take m ++ b.drop m))
      generalize fieldsOf (a.take m ++ b.drop m) (nOf (a.take m ++ b.drop m)) = f at h5 hfl
      have e1 := sectorB_tail which N.epoch f
      have e2 := sectorB_pre (which := which) (epoch := N.epoch) (f := f) (by omega)
      have := get4_le4 _ [] N.epoch _ e2 (by omega) (by omega)
      rw [← e1, ← h5, k1] at this
      omega
    rw [readS, if_neg this]
end Go.Proofs.Ytoljbocejclaeaa
