/-
  A node's page says the node | Pages as parts that lie apart from one another | What each kind of operation does, told by frames and by parts of the heap
-/
import Derived.Test.YtjlofdodiaklaaaGreatYaa
import Derived.Test.YtjlofdodiaklaaaGreatYab
import Derived.Deep.AppendLies
import Derived.IntWalk
set_option linter.unusedVariables false
set_option linter.unusedSimpArgs false
namespace Go.Tr

theorem u8_ofNat {n : Nat} (h : n < 256) : (UInt8.ofNat n).toNat = n := by
  rw [UInt8.toNat_ofNat']; exact Nat.mod_eq_of_lt h
theorem pieceB_at {k rest : Bs} (h : k.length < 256) : pieceB (UInt8.ofNat k.length :: (k ++ rest)) = some (k, rest) := by
  have h1 : takeB 1 (UInt8.ofNat k.length :: (k ++ rest)) = some ([UInt8.ofNat k.length], k ++ rest) := by
    unfold takeB; rw [if_neg (by simp)]; rfl
  unfold pieceB
  rw [h1]
  dsimp only []
  rw [u8_ofNat h]
  unfold takeB
  rw [if_neg (by simp), List.take_left, List.drop_left]
theorem kidB_at {c : Nat} {rest : Bs} (h : c < 65536) : kidB (two c ++ rest) = some (c, rest) := by
  have h1 : takeB 2 (two c ++ rest) = some ([UInt8.ofNat (c / 256), UInt8.ofNat c], rest) := by
    unfold takeB two; rw [if_neg (by simp)]; rfl
  unfold kidB
  rw [h1]
  dsimp only []
  rw [u8_ofNat (by omega), UInt8.toNat_ofNat']
  congr 2
  show c / 256 * 256 + c % 256 = c
  omega
theorem parseL_cells : ∀ {keys vals : List Bs} {ks vs : List Bs} {rest : Bs}, vals.length = keys.length → (∀ k ∈ keys, k.length < 256) → (∀ v ∈ vals, v.length < 256) → parseL keys.length ks vs (cells true keys vals [] ++ rest) = some (ks ++ keys, vs ++ vals)
  | [], [], ks, vs, rest, _, _, _ => by simp [parseL]
  | k :: keys, v :: vals, ks, vs, rest, hl, hk, hv => by
    show parseL (keys.length + 1) ks vs (cells true (k :: keys) (v :: vals) [] ++ rest) = _
    unfold parseL
    have e : cells true (k :: keys) (v :: vals) [] ++ rest = UInt8.ofNat k.length :: (k ++ (UInt8.ofNat v.length :: (v ++ (cells true keys vals [] ++ rest)))) := by
      simp [cells]
    rw [e, pieceB_at (hk k (List.mem_cons_self ..))]
    dsimp only []
    rw [pieceB_at (hv v (List.mem_cons_self ..))]
    dsimp only []
    rw [parseL_cells (by simpa using hl) (fun x hx => hk x (List.mem_cons_of_mem _ hx)) (fun x hx => hv x (List.mem_cons_of_mem _ hx))]
    simp
  | [], _ :: _, _, _, _, hl, _, _ => by simp at hl
  | _ :: _, [], _, _, _, hl, _, _ => by simp at hl
theorem parseI_cells : ∀ {keys : List Bs} {kids : List Nat} {ks : List Bs} {cs : List Nat} {rest : Bs}, kids.length = keys.length → (∀ k ∈ keys, k.length < 256) → (∀ c ∈ kids, c < 65536) → parseI keys.length ks cs (cells false keys [] kids ++ rest) = some (ks ++ keys, cs ++ kids)
  | [], [], ks, cs, rest, _, _, _ => by simp [parseI]
  | k :: keys, c :: kids, ks, cs, rest, hl, hk, hc => by
    show parseI (keys.length + 1) ks cs (cells false (k :: keys) [] (c :: kids) ++ rest) = _
    unfold parseI
    have e : cells false (k :: keys) [] (c :: kids) ++ rest = UInt8.ofNat k.length :: (k ++ (two c ++ (cells false keys [] kids ++ rest))) := by
      simp [cells]
    rw [e, pieceB_at (hk k (List.mem_cons_self ..))]
    dsimp only []
    rw [kidB_at (hc c (List.mem_cons_self ..))]
    dsimp only []
    rw [parseI_cells (by simpa using hl) (fun x hx => hk x (List.mem_cons_of_mem _ hx)) (fun x hx => hc x (List.mem_cons_of_mem _ hx))]
    simp
  | [], _ :: _, _, _, _, hl, _, _ => by simp at hl
  | _ :: _, [], _, _, _, hl, _, _ => by simp at hl
theorem sum_cons (f g : Nat → Nat) (n c : Nat) (h0 : f 0 = c) (h : ∀ i, f (i + 1) = g i) : ((List.range (n + 1)).map f).sum = c + ((List.range n).map g).sum := by
  rw [List.range_succ_eq_map, List.map_cons, List.sum_cons, h0, List.map_map]
  congr 3
  funext i
  exact h i
theorem cellsL_len : ∀ {keys vals : List Bs}, vals.length = keys.length → (cells true keys vals []).length = ((List.range keys.length).map fun i => 2 + (keys.getD i []).length + (vals.getD i []).length).sum
  | [], [], _ => rfl
  | k :: keys, v :: vals, hl => by
    have h := cellsL_len (keys := keys) (vals := vals) (by simpa using hl)
    rw [List.length_cons (as := keys), sum_cons _ (fun i => 2 + (keys.getD i []).length + (vals.getD i []).length) keys.length (2 + k.length + v.length) (by simp) (fun i => by simp), ← h]
    simp [cells]; omega
  | [], _ :: _, hl => by simp at hl
  | _ :: _, [], hl => by simp at hl
theorem cellsI_len : ∀ {keys : List Bs} {kids : List Nat}, kids.length = keys.length → (cells false keys [] kids).length = 2 * kids.length + ((List.range keys.length).map fun i => 1 + (keys.getD i []).length).sum
  | [], [], _ => rfl
  | k :: keys, c :: kids, hl => by
    have h := cellsI_len (keys := keys) (kids := kids) (by simpa using hl)
    rw [List.length_cons (as := keys), sum_cons _ (fun i => 1 + (keys.getD i []).length) keys.length (1 + k.length) (by simp) (fun i => by simp)]
    simp [cells, two, h]; omega
  | [], _ :: _, hl => by simp at hl
  | _ :: _, [], hl => by simp at hl
theorem body_len {n : Nd} (h : n.sound) : n.body.length = n.size := by
  obtain ⟨lf, keys, vals, kids⟩ := n
  obtain ⟨_, _, h3⟩ := h
  cases lf with
  | true =>
    simp only [if_true] at h3
    have := cellsL_len (keys := keys) (vals := vals) h3.1
    show (1 :: UInt8.ofNat keys.length :: cells true keys vals []).length = _
    unfold Nd.size
    have e : (Nd.cell ⟨true, keys, vals, kids⟩) = fun i => 2 + (keys.getD i []).length + (vals.getD i []).length := rfl
    rw [e, ← this]
    simp only [List.length_cons, if_true]; omega
  | false =>
    simp only [Bool.false_eq_true, if_false] at h3
    obtain ⟨h4, h5, _⟩ := h3
    cases kids with
    | nil => simp at h5
    | cons c kids =>
      have := cellsI_len (keys := keys) (kids := kids) (by simpa using h5)
      show (2 :: UInt8.ofNat keys.length :: (two c ++ cells false keys [] kids)).length = _
      unfold Nd.size
      have e : (Nd.cell ⟨false, keys, vals, c :: kids⟩) = fun i => 1 + (keys.getD i []).length := rfl
      rw [e]
      simp only [Bool.false_eq_true, if_false, List.length_cons, List.length_append, this, two, List.length_nil]
      omega
theorem keys_few {n : Nd} (h : n.right) : n.keys.length < 256 := by
  have h2 := h.2
  unfold Nd.size at h2
  have key : ∀ (l : List Nat), l.length ≤ (l.map n.cell).sum := by
    intro l
    induction l with
    | nil => simp
    | cons a l ih =>
      have : 1 ≤ n.cell a := by unfold Nd.cell; split <;> omega
      simp only [List.length_cons, List.map_cons, List.sum_cons]; omega
  have := key (List.range n.keys.length)
  rw [List.length_range] at this
  omega
theorem page_len {n : Nd} (h : n.right) : n.page.length = 256 := by
  have := body_len h.1
  have h2 := h.2
  unfold Nd.page pad
  rw [List.length_append, List.length_replicate]
  omega
theorem parseN_page {n : Nd} (h : n.right) : parseN n.page = some n := by
  have hf := keys_few h
  obtain ⟨⟨hk, hr, h3⟩, _⟩ := h
  have hk2 : ∀ k ∈ n.keys, k.length < 256 := fun k hk' => by have := (hk k hk').2; omega
  obtain ⟨lf, keys, vals, kids⟩ := n
  cases lf with
  | true =>
    simp only [if_true] at h3
    obtain ⟨h4, rfl, h5⟩ := h3
    have e : Nd.page ⟨true, keys, vals, []⟩ = 1 :: UInt8.ofNat keys.length :: (cells true keys vals [] ++ List.replicate (256 - (Nd.body ⟨true, keys, vals, []⟩).length) 0) := rfl
    rw [e]
    unfold parseN
    refine (if_pos rfl).trans ?_
    show (match parseL (UInt8.ofNat keys.length).toNat [] [] (cells true keys vals [] ++ _) with
      | some (ks, vs) => some (⟨true, ks, vs, []⟩ : Nd)
      | none => none) = _
    rw [u8_ofNat hf, parseL_cells h4 hk2 fun v hv => by have := h5 v hv; omega]
    rfl
  | false =>
    simp only [Bool.false_eq_true, if_false] at h3
    obtain ⟨rfl, h5, h6⟩ := h3
    cases kids with
    | nil => simp at h5
    | cons c kids =>
      have e : Nd.page ⟨false, keys, [], c :: kids⟩ = 2 :: UInt8.ofNat keys.length :: (two c ++ (cells false keys [] kids ++ List.replicate (256 - (Nd.body ⟨false, keys, [], c :: kids⟩).length) 0)) := by
        show (2 :: UInt8.ofNat keys.length :: (two c ++ cells false keys [] kids)) ++ _ = _
        simp
      rw [e]
      unfold parseN
      refine (if_neg (show ¬ ((2 : UInt8) = 1) by decide)).trans ?_
      show (match kidB (two c ++ (cells false keys [] kids ++ _)) with
        | none => none
        | some (c, l) => match parseI (UInt8.ofNat keys.length).toNat [] [c] l with
          | some (ks, cs) => some (⟨false, ks, [], cs⟩ : Nd)
          | none => none) = _
      rw [kidB_at (by have := h6 c (List.mem_cons_self ..); omega)]
      dsimp only []
      rw [u8_ofNat hf, parseI_cells (by simpa using h5) hk2 fun x hx => by have := h6 x (List.mem_cons_of_mem _ hx); omega]
      rfl
theorem readN_page {n : Nd} (h : n.right) : readN n.page = some n := by
  unfold readN
  rw [if_pos (page_len h), parseN_page h]
  dsimp only []
  rw [if_pos ⟨h, rfl⟩]
theorem readN_some {b : Bs} {n : Nd} (h : readN b = some n) : n.right ∧ n.page = b := by
  unfold readN at h
  split at h
  · split at h
    · split at h
      · next h1 => cases h; exact h1
      · cases h
    · cases h
  · cases h
end Go.Tr

namespace Go.Pa
open Go.Tr

abbrev Ph := Nat → Option Bs
def Ph.le (h k : Ph) : Prop := ∀ i o, h i = some o → k i = some o
def Ph.apart (h k : Ph) : Prop := ∀ i, h i = none ∨ k i = none
def Ph.un (h k : Ph) : Ph := fun i => match h i with | some o => some o | none => k i
abbrev PA := Ph → Prop
def Al : List PA → Ph → Prop
  | [], _ => True
  | A :: l, h => ∃ h1 h2, Ph.apart h1 h2 ∧ Ph.le h1 h ∧ Ph.le h2 h ∧ A h1 ∧ Al l h2

theorem Ph.le_refl (h : Ph) : h.le h := fun _ _ e => e
theorem Ph.le_trans {a b c : Ph} (h : a.le b) (k : b.le c) : a.le c := fun i o e => k i o (h i o e)
theorem Ph.apart_symm {h k : Ph} (a : h.apart k) : k.apart h := fun i => (a i).symm
theorem Ph.apart_le {h k h' k' : Ph} (a : h.apart k) (hl : h'.le h) (kl : k'.le k) : h'.apart k' := fun i => by
  cases e1 : h' i with
  | none => exact .inl rfl
  | some o =>
    cases e2 : k' i with
    | none => exact .inr rfl
    | some o' =>
      rcases a i with e | e
      · rw [hl i o e1] at e; cases e
      · rw [kl i o' e2] at e; cases e
theorem Ph.le_un_left (h k : Ph) : h.le (h.un k) := fun i o e => by simp [Ph.un, e]
theorem Ph.le_un_right {h k : Ph} (a : h.apart k) : k.le (h.un k) := fun i o e => by
  rcases a i with e' | e'
  · simp [Ph.un, e', e]
  · rw [e] at e'; cases e'
theorem Ph.un_le {h k m : Ph} (a : h.le m) (b : k.le m) : (h.un k).le m := fun i o e => by
  unfold Ph.un at e
  cases e1 : h i with
  | none => rw [e1] at e; exact b i o e
  | some o' => rw [e1] at e; cases e; exact a i o e1
theorem Ph.un_apart {h k m : Ph} (a : h.apart m) (b : k.apart m) : (h.un k).apart m := fun i => by
  rcases a i with e | e
  · rcases b i with e' | e'
    · exact .inl (by simp [Ph.un, e, e'])
    · exact .inr e'
  · exact .inr e

theorem Al.mono {l : List PA} {h k : Ph} (a : Al l h) (hk : h.le k) : Al l k := by
  cases l with
  | nil => trivial
  | cons A l =>
    obtain ⟨h1, h2, ap, l1, l2, hA, hl⟩ := a
    exact ⟨h1, h2, ap, Ph.le_trans l1 hk, Ph.le_trans l2 hk, hA, hl⟩
theorem Al.tail {A : PA} {l : List PA} {h : Ph} (a : Al (A :: l) h) : Al l h := by
  obtain ⟨_, _, _, _, l2, _, hl⟩ := a
  exact hl.mono l2
theorem Al.swap {A B : PA} {l : List PA} {h : Ph} (a : Al (A :: B :: l) h) : Al (B :: A :: l) h := by
  obtain ⟨h1, h2, ap, l1, l2, hA, h3, h4, ap', l3, l4, hB, hl⟩ := a
  have a13 : Ph.apart h1 h3 := Ph.apart_le ap (Ph.le_refl _) l3
  have a14 : Ph.apart h1 h4 := Ph.apart_le ap (Ph.le_refl _) l4
  exact ⟨h3, h1.un h4, Ph.apart_symm (Ph.un_apart a13 (Ph.apart_symm ap')), Ph.le_trans l3 l2, Ph.un_le l1 (Ph.le_trans l4 l2), hB,
    h1, h4, a14, Ph.le_un_left _ _, Ph.le_un_right a14, hA, hl⟩
theorem Al.imp {l : List PA} {A B : PA} {h : Ph} (a : Al (A :: l) h) (hi : ∀ k, A k → B k) : Al (B :: l) h := by
  obtain ⟨h1, h2, ap, l1, l2, hA, hl⟩ := a
  exact ⟨h1, h2, ap, l1, l2, hi _ hA, hl⟩
theorem Al.cons_imp {l l' : List PA} {A : PA} {h : Ph} (a : Al (A :: l) h) (hi : ∀ k, Al l k → Al l' k) : Al (A :: l') h := by
  obtain ⟨h1, h2, ap, l1, l2, hA, hl⟩ := a
  exact ⟨h1, h2, ap, l1, l2, hA, hi _ hl⟩
theorem Al.head {A : PA} {l : List PA} {h : Ph} (a : Al (A :: l) h) : Al [A] h := by
  obtain ⟨h1, h2, ap, l1, l2, hA, _⟩ := a
  exact ⟨h1, h2, ap, l1, l2, hA, trivial⟩
theorem Al.pull {l : List PA} {h : Ph} (i : Nat) {A : PA} (hi : l[i]? = some A) (a : Al l h) : Al (A :: l.eraseIdx i) h := by
  induction l generalizing i h with
  | nil => simp at hi
  | cons B l ih =>
    cases i with
    | zero => simp at hi; subst hi; exact a
    | succ i =>
      simp at hi
      exact Al.swap (a.cons_imp fun k hk => ih i hi hk)
theorem Al.push_ {l : List PA} {h : Ph} (i : Nat) {A : PA} (hi : i ≤ l.length) (a : Al (A :: l) h) : Al (l.insertIdx i A) h := by
  induction l generalizing i h with
  | nil => have : i = 0 := by simpa using hi
           subst this; exact a
  | cons B l ih =>
    cases i with
    | zero => exact a
    | succ i => exact a.swap.cons_imp fun k hk => ih i (by simpa using hi) hk
theorem Al.append_iff {l m : List PA} {h : Ph} : Al (l ++ m) h ↔ ∃ h1 h2, Ph.apart h1 h2 ∧ Ph.le h1 h ∧ Ph.le h2 h ∧ Al l h1 ∧ Al m h2 := by
  induction l generalizing h with
  | nil => exact ⟨fun a => ⟨fun _ => none, h, fun _ => .inl rfl, fun _ _ e => (by cases e), Ph.le_refl _, trivial, a⟩, fun ⟨_, _, _, _, l2, _, hm⟩ => hm.mono l2⟩
  | cons A l ih =>
    constructor
    · rintro ⟨h1, h2, ap, l1, l2, hA, hl⟩
      obtain ⟨h3, h4, ap', l3, l4, hl', hm⟩ := ih.1 hl
      have a13 := Ph.apart_le ap (Ph.le_refl _) l3
      have a14 := Ph.apart_le ap (Ph.le_refl _) l4
      exact ⟨h1.un h3, h4, Ph.un_apart a14 ap', Ph.un_le l1 (Ph.le_trans l3 l2), Ph.le_trans l4 l2,
        ⟨h1, h3, a13, Ph.le_un_left _ _, Ph.le_un_right a13, hA, hl'⟩, hm⟩
    · rintro ⟨h1, h2, ap, l1, l2, ⟨h3, h4, ap', l3, l4, hA, hl⟩, hm⟩
      have a32 := Ph.apart_le ap l3 (Ph.le_refl _)
      have a42 := Ph.apart_le ap l4 (Ph.le_refl _)
      exact ⟨h3, h4.un h2, Ph.apart_symm (Ph.un_apart (Ph.apart_symm ap') (Ph.apart_symm a32)), Ph.le_trans l3 l1, Ph.un_le (Ph.le_trans l4 l1) l2, hA,
        ih.2 ⟨h4, h2, a42, Ph.le_un_left _ _, Ph.le_un_right a42, hl, hm⟩⟩
def pickAt {α : Type} (l : List α) : List Nat → Option (List α)
  | [] => some []
  | i :: is => match l[i]?, pickAt l is with
    | some A, some r => some (A :: r)
    | _, _ => none
def distinct : List Nat → Bool
  | [] => true
  | i :: is => is.all (fun j => !Nat.beq i j) && distinct is
theorem Al.pick_ {l : List PA} {h : Ph} (a : Al l h) : ∀ (is : List Nat) (r : List PA), distinct is = true → pickAt l is = some r → Al r h := by
  -- by the parts' heaps, told place by place
  have key : ∀ (l : List PA) (h : Ph), Al l h → ∃ f : Nat → Ph, (∀ i j, i ≠ j → Ph.apart (f i) (f j)) ∧ (∀ i, Ph.le (f i) h) ∧ ∀ (i : Nat) (A : PA), l[i]? = some A → A (f i) := by
    intro l
    induction l with
    | nil => exact fun h _ => ⟨fun _ _ => none, fun _ _ _ _ => .inl rfl, fun _ _ _ e => (by cases e), fun i A e => (by simp at e)⟩
    | cons A l ih =>
      rintro h ⟨h1, h2, ap, l1, l2, hA, hl⟩
      obtain ⟨f, f1, f2, f3⟩ := ih h2 hl
      refine ⟨fun i => match i with | 0 => h1 | i + 1 => f i, ?_, ?_, ?_⟩
      · intro i j hij
        cases i with
        | zero => cases j with
          | zero => exact absurd rfl hij
          | succ j => exact Ph.apart_le ap (Ph.le_refl _) (f2 j)
        | succ i => cases j with
          | zero => exact Ph.apart_symm (Ph.apart_le ap (Ph.le_refl _) (f2 i))
          | succ j => exact f1 i j (by omega)
      · intro i; cases i with
        | zero => exact l1
        | succ i => exact Ph.le_trans (f2 i) l2
      · intro i B hB; cases i with
        | zero => simp at hB; subst hB; exact hA
        | succ i => simp at hB; exact f3 i B hB
  obtain ⟨f, f1, f2, f3⟩ := key l h a
  have fin : ∀ (is : List Nat) (r : List PA), distinct is = true → pickAt l is = some r → ∃ k : Ph, Ph.le k h ∧ (∀ j, j ∉ is → Ph.apart (f j) k) ∧ Al r k := by
    intro is
    induction is with
    | nil => intro r _ hr; simp [pickAt] at hr; subst hr; exact ⟨fun _ => none, fun _ _ e => (by cases e), fun _ _ _ => .inr rfl, trivial⟩
    | cons i is ih =>
      intro r hd hr
      simp only [distinct, Bool.and_eq_true, List.all_eq_true, Bool.not_eq_true', ] at hd
      obtain ⟨hni, hd⟩ := hd
      simp only [pickAt] at hr
      split at hr
      · rename_i A r' hA hr'
        cases hr
        obtain ⟨k, k1, k2, k3⟩ := ih r' hd hr'
        have hi : i ∉ is := fun hm => by have := hni i hm; simp at this
        have ap := k2 i hi
        refine ⟨(f i).un k, Ph.un_le (f2 i) k1, fun j hj => ?_, f i, k, ap, Ph.le_un_left _ _, Ph.le_un_right ap, f3 i A hA, k3⟩
        simp only [List.mem_cons, not_or] at hj
        exact Ph.apart_symm (Ph.un_apart (f1 i j (Ne.symm hj.1)) (Ph.apart_symm (k2 j hj.2)))
      · cases hr
  intro is r hd hr
  obtain ⟨k, k1, _, k3⟩ := fin is r hd hr
  exact k3.mono k1

end Go.Pa

namespace Go.Sl
open Go

class TyU (P : Program) (t : TypeId) (d : outParam TypeDesc) : Prop where
  h : P.underlying t = some d
class TyI (P : Program) (t : TypeId) (agg : outParam Bool) (size bytes : outParam Nat) (zero : outParam (List Value)) : Prop where
  info : ∃ i, P.info? t = some i ∧ i.size = size ∧ i.bytes = bytes ∧ i.zero = some (if agg then .agg zero.toArray else zero.headD undef) ∧ (agg = false → ∃ v, zero = [v] ∧ v.oneCell' = true) ∧ zero.length = size ∧ zero.all (·.oneCell') = true
  agg_ : ∀ w, (isAgg t).run P w = .ok agg w
class TyF (P : Program) (s : TypeId) (f : Nat) (off : outParam Nat) (ft : outParam TypeId) : Prop where
  h : ∃ (fields : Array Field) (fld : Field) (i : TypeInfo), P.underlying s = some (.struct fields) ∧ fields[f]? = some fld ∧ fld.offset = off ∧ fld.type = ft ∧ P.info? ft = some i ∧ i.size ≠ 0
class Fun (P : Program) (f : FuncId) : Prop where
  h : ∀ (args : Array Value) (w : World), (callFunc f args).run P w = .ok (.enter f args) w

section
variable {P : Program} {t : TypeId} {w : World}
theorem TyU.run {d : TypeDesc} [h : TyU P t d] (w : World) : (underlying t).run P w = .ok d w := run_underlying h.h w
theorem TyI.run_info {agg : Bool} {size bytes : Nat} {zero : List Value} [h : TyI P t agg size bytes zero] (w : World) : ∃ i, (typeInfo t).run P w = .ok i w ∧ i.size = size ∧ i.bytes = bytes ∧ i.zero = some (if agg then .agg zero.toArray else zero.headD undef) := by
  obtain ⟨i, h1, h2, h3, h4, _⟩ := h.info
  exact ⟨i, by simp [typeInfo, h1], h2, h3, h4⟩
theorem TyI.run_size {agg : Bool} {size bytes : Nat} {zero : List Value} [h : TyI P t agg size bytes zero] (w : World) : (sizeOf t).run P w = .ok size w := by
  obtain ⟨i, h1, h2, h3, h4, _⟩ := h.info
  simp [sizeOf, typeInfo, h1, h2]
theorem TyI.run_zero {agg : Bool} {size bytes : Nat} {zero : List Value} [h : TyI P t agg size bytes zero] (w : World) : (zeroValue t).run P w = .ok (if agg then .agg zero.toArray else zero.headD undef) w := by
  obtain ⟨i, h1, h2, h3, h4, _⟩ := h.info
  simp [zeroValue, typeInfo, h1, h4]
theorem TyI.zero_cells {agg : Bool} {size bytes : Nat} {zero : List Value} (P : Program) (t : TypeId) [h : TyI P t agg size bytes zero] : (if agg then Value.agg zero.toArray else zero.headD undef).cells = zero.toArray := by
  obtain ⟨i, h1, h2, h3, h4, h5, _⟩ := h.info
  cases agg with
  | true => rfl
  | false =>
    obtain ⟨v, rfl, hv⟩ := h5 rfl
    cases v <;> simp [Value.oneCell'] at hv <;> rfl
end

theorem oneCell'_cells {v : Value} (h : v.oneCell' = true) : v.cells = #[v] := by cases v <;> simp [Value.oneCell'] at h <;> rfl
def valOf (agg : Bool) (cs : List Value) : Value := if agg then .agg cs.toArray else cs.headD undef

section
variable {P : Program} {w : World} {l : List Assn} {b : Nat} {cs : List Value} {t e : TypeId}
theorem run_loadVar {agg : Bool} {size bytes : Nat} {zero : List Value} [h : TyI P t agg size bytes zero] (o : Nat) (vs : List Value) (hl : vs.length = size) (hc : ∀ (j : Nat) (u : Value), vs[j]? = some u → w.cell? ⟨b, o + j, none⟩ = some u) :
    (loadVar t ⟨b, o, none⟩).run P w = .ok (valOf agg vs) w := by
  unfold loadVar
  rw [Sem.run_bind, h.agg_ w]
  simp only [Result.andThen_ok]
  cases agg with
  | true =>
    simp only [if_true, Sem.run_bind]
    rw [TyI.run_size (P := P) (t := t) w]
    simp only [Result.andThen_ok]
    subst hl
    rw [run_loadCells_list w ⟨b, o, none⟩ vs (fun j v hj => by rw [Addr.add_lit]; exact hc j v hj)]
    simp [valOf]
  | false =>
    obtain ⟨_, _, _, _, _, h5, h6, _⟩ := h.info
    obtain ⟨v0, hz, _⟩ := h5 rfl
    rw [hz] at h6
    subst h6
    match vs, hl with
    | [v], _ =>
      have := hc 0 v rfl
      simp only [Nat.add_zero] at this
      simp [valOf, load, Sem.run, this]
end

def bytesV (l : List UInt8) : List Value := l.map fun c => Value.int .u8 (c.toNat : Int)
abbrev str (l : List UInt8) : Value := .string ⟨l.toArray⟩
def byteAt (l : List UInt8) (j : Nat) : Int := ((l[j]?).getD 0).toNat
theorem byteAt_bd (l : List UInt8) (j : Nat) : 0 ≤ byteAt l j ∧ byteAt l j ≤ 255 := by
  unfold byteAt
  have := UInt8.toNat_lt ((l[j]?).getD 0)
  omega
@[simp] theorem bytesV_length (l : List UInt8) : (bytesV l).length = l.length := by simp [bytesV]
theorem bytesV_get (l : List UInt8) (j : Nat) (h : j < l.length) : (bytesV l)[j]? = some (.int .u8 (byteAt l j)) := by
  simp [bytesV, byteAt, h]
theorem bytesV_one (l : List UInt8) : ∀ v ∈ bytesV l, v.oneCell' = true := by
  intro v hv
  obtain ⟨c, _, rfl⟩ := List.mem_map.1 hv
  rfl
theorem bytesV_many (n : Nat) (c : UInt8) : bytesV (many n c) = reps n (.int .u8 (c.toNat : Int)) := by simp [bytesV, many, reps]
theorem bytesV_zeros (n : Nat) : bytesV (many n 0) = reps n (.int .u8 0) := bytesV_many n 0
theorem bytesV_append (l m : List UInt8) : bytesV (l ++ m) = bytesV l ++ bytesV m := by simp [bytesV]
theorem bytesV_take (l : List UInt8) (n : Nat) : (bytesV l).take n = bytesV (l.take n) := by simp [bytesV]
theorem bytesV_drop (l : List UInt8) (n : Nat) : (bytesV l).drop n = bytesV (l.drop n) := by simp [bytesV]

theorem wrap_of {k : IntKind} {n : Int} (h1 : k.min ≤ n) (h2 : n ≤ k.max) : k.wrap n = n := by
  cases k <;> simp [IntKind.min, IntKind.max, IntKind.signed, IntKind.bits] at h1 h2 <;> simp [IntKind.wrap, IntKind.signed, IntKind.bits] <;> omega
theorem wrap64 {n : Int} (h : -9223372036854775808 ≤ n ∧ n ≤ 9223372036854775807) : IntKind.i64.wrap n = n := wrap_of (k := .i64) h.1 h.2

theorem wrap_u8 (n : Int) : IntKind.u8.wrap n = n % 256 := by simp [IntKind.wrap, IntKind.signed, IntKind.bits]
theorem wrap_u16 (n : Int) : IntKind.u16.wrap n = n % 65536 := by simp [IntKind.wrap, IntKind.signed, IntKind.bits]
theorem wrap_u32 (n : Int) : IntKind.u32.wrap n = n % 4294967296 := by simp [IntKind.wrap, IntKind.signed, IntKind.bits]
theorem wrap_u64 (n : Int) : IntKind.u64.wrap n = n % 18446744073709551616 := by simp [IntKind.wrap, IntKind.signed, IntKind.bits]
section
variable {P : Program} {fr : Fr} {d : Option Tmp} {ty : TypeId} {pos : String} {aft : Array Edge} {g : Option (Nat × Bool)} {v u z vx vy : Value} {x y c i : Operand} {t s e : TypeId}

theorem po_move (hx : ev fr x = some v) : Pure P ⟨d, .move x, ty, pos, aft, g⟩ fr v := fun n ds a hf w => by simp [execOp, hf.ev hx]
theorem po_assign (hx : ev fr x = some v) : Pure P ⟨d, .assign x, ty, pos, aft, g⟩ fr v := fun n ds a hf w => by simp [execOp, hf.ev hx]
theorem po_pick_true (hc : ev fr c = some (.bool true)) (hx : ev fr x = some v) : Pure P ⟨d, .pick c x y, ty, pos, aft, g⟩ fr v := fun n ds a hf w => by simp [execOp, hf.ev hx, hf.ev hc, asBool]
theorem po_pick_false (hc : ev fr c = some (.bool false)) (hy : ev fr y = some v) : Pure P ⟨d, .pick c x y, ty, pos, aft, g⟩ fr v := fun n ds a hf w => by simp [execOp, hf.ev hy, hf.ev hc, asBool]
theorem po_extract {vs : Array Value} {k : Nat} (hx : ev fr x = some (.tuple vs)) (hk : vs[k]? = some v) : Pure P ⟨d, .extract x k, ty, pos, aft, g⟩ fr v := fun n ds a hf w => by
  simp [execOp, hf.ev hx, Instr.extract, hk]
theorem po_nilCheck {ad : Addr} (hx : ev fr x = some (.pointer (some ad))) : Pure P ⟨d, .nilCheck x, ty, pos, aft, g⟩ fr (.pointer (some ad)) := fun n ds a hf w => by simp [execOp, hf.ev hx]
theorem run_fieldAt {f off : Nat} {ft : TypeId} [h : TyF P s f off ft] (b o : Nat) (w : World) : (Instr.fieldAt s (.pointer (some ⟨b, o, none⟩)) f).run P w = .ok (.pointer (some ⟨b, o + off, none⟩)) w := by
  obtain ⟨fs, fld, i, h1, h2, rfl, rfl, h4, h5⟩ := h.h
  simp [Instr.fieldAt, run_underlying h1, h2, Instr.sureAddr, fieldPlace, sizeOf, typeInfo, h4, h5, Addr.add_lit]
theorem po_fieldAddr {f off : Nat} {ft : TypeId} [h : TyF P s f off ft] {b o : Nat} (hx : ev fr x = some (.pointer (some ⟨b, o, none⟩))) : Pure P ⟨d, .fieldAddr s x f, ty, pos, aft, g⟩ fr (.pointer (some ⟨b, o + off, none⟩)) := fun n ds a hf w => by
  obtain ⟨fs, fld, i, h1, h2, rfl, rfl, h4, h5⟩ := h.h
  simp [execOp, hf.ev hx, Instr.fieldAt, run_underlying h1, h2, Instr.sureAddr, fieldPlace, sizeOf, typeInfo, h4, h5, Addr.add_lit]
theorem run_part {agg : Bool} {size bytes : Nat} {zero : List Value} [h : TyI P t agg size bytes zero] (cs : List Value) (o : Nat) (ho : o + size ≤ cs.length) (w : World) : (part t cs.toArray o).run P w = .ok (valOf agg ((cs.drop o).take size)) w := by
  unfold part
  rw [Sem.run_bind, h.agg_ w]
  simp only [Result.andThen_ok]
  cases agg with
  | true =>
    simp only [if_true, Sem.run_bind]
    rw [TyI.run_size (P := P) (t := t) w]
    simp [valOf]
  | false =>
    obtain ⟨_, _, _, _, _, h5, h6, _⟩ := h.info
    obtain ⟨v0, hz, _⟩ := h5 rfl
    rw [hz] at h6
    subst h6
    have ho' : o < cs.length := by simp at ho; omega
    have ht : List.take [v0].length (List.drop o cs) = [cs[o]] := by rw [List.drop_eq_getElem_cons ho']; rfl
    rw [ht]
    simp [valOf, ho']

def Bin (P : Program) (op : BinOp) (t : TypeId) (vx vy v : Value) : Prop := ∀ (x y : Operand) (w : World), (do eqGuard op t x y vx vy; binOp op t vx vy : Sem Value).run P w = .ok v w
theorem po_bin {op : BinOp} {yt : TypeId} (hx : ev fr x = some vx) (hy : ev fr y = some vy) (h : Bin P op t vx vy v) : Pure P ⟨d, .binOp op t x y yt, ty, pos, aft, g⟩ fr v := fun n ds a hf w => by
  simp only [execOp, hf.ev hx, hf.ev hy]
  have := h x y w
  simp only [Sem.run_bind] at this ⊢
  rw [this]
  rfl
section
variable {k : IntKind} {m n : Int}
theorem br_add {r : Int} (h : k.wrap (m + n) = r) : Bin P .add t (.int k m) (.int k n) (.int k r) := fun _ _ _ => by subst h; simp [eqGuard, binOp, Op.intArith]
theorem br_sub {r : Int} (h : k.wrap (m - n) = r) : Bin P .sub t (.int k m) (.int k n) (.int k r) := fun _ _ _ => by subst h; simp [eqGuard, binOp, Op.intArith]
theorem br_mul {r : Int} (h : k.wrap (m * n) = r) : Bin P .mul t (.int k m) (.int k n) (.int k r) := fun _ _ _ => by subst h; simp [eqGuard, binOp, Op.intArith]
theorem br_lss : Bin P .lss t (.int k m) (.int k n) (.bool (decide (m < n))) := fun _ _ _ => by simp [eqGuard, binOp, Op.intCmp]
theorem br_leq : Bin P .leq t (.int k m) (.int k n) (.bool (decide (m ≤ n))) := fun _ _ _ => by simp [eqGuard, binOp, Op.intCmp]
theorem br_gtr : Bin P .gtr t (.int k m) (.int k n) (.bool (decide (n < m))) := fun _ _ _ => by simp [eqGuard, binOp, Op.intCmp]
theorem br_geq : Bin P .geq t (.int k m) (.int k n) (.bool (decide (n ≤ m))) := fun _ _ _ => by simp [eqGuard, binOp, Op.intCmp]
theorem br_eql : Bin P .eql t (.int k m) (.int k n) (.bool (decide (m = n))) := fun _ _ _ => by simp [eqGuard, binOp, Op.intCmp]; rfl
theorem br_neq : Bin P .neq t (.int k m) (.int k n) (.bool (decide (m ≠ n))) := fun _ _ _ => by simp [eqGuard, binOp, Op.intCmp, bne]; rfl
theorem br_quo (h0 : 0 ≤ m) (h1 : 1 ≤ n) (h2 : m ≤ k.max) : Bin P .quo t (.int k m) (.int k n) (.int k (m / n)) := fun _ _ w => by
  have hn : ¬ n = 0 := by omega
  have hq : m.tdiv n = m / n := Int.tdiv_eq_ediv_of_nonneg h0
  have h3 : 0 ≤ m / n := Int.ediv_nonneg h0 (by omega)
  have h4 : m / n ≤ m := Int.ediv_le_self n h0
  have hm : k.min ≤ 0 := by cases k <;> decide
  simp [eqGuard, binOp, Op.intDiv, hn, hq, wrap_of (k := k) (n := m / n) (by omega) (by omega)]
theorem br_rem (h0 : 0 ≤ m) (h1 : 1 ≤ n) : Bin P .rem t (.int k m) (.int k n) (.int k (m % n)) := fun _ _ w => by
  have hn : ¬ n = 0 := by omega
  have hq : m.tmod n = m % n := Int.tmod_eq_emod_of_nonneg h0
  simp [eqGuard, binOp, Op.intDiv, hn, hq]
theorem br_shl {yk : IntKind} {r : Int} {j : Nat} (hj : Nat.ble j k.bits = true) (h : k.wrap (m * 2 ^ j) = r) : Bin P .shl t (.int k m) (.int yk (j : Int)) (.int k r) := fun _ _ w => by
  have hj' : j ≤ k.bits := by simpa using hj
  have h0 : ¬ ((j : Int) < 0) := by omega
  subst h
  simp [eqGuard, binOp, Op.shift, h0, Nat.min_eq_left hj']
theorem br_shr {yk : IntKind} {j : Nat} (hj : Nat.ble j k.bits = true) : Bin P .shr t (.int k m) (.int yk (j : Int)) (.int k (m / 2 ^ j)) := fun _ _ w => by
  have hj' : j ≤ k.bits := by simpa using hj
  have h0 : ¬ ((j : Int) < 0) := by omega
  simp [eqGuard, binOp, Op.shift, h0, Nat.min_eq_left hj', Int.fdiv_eq_ediv_of_nonneg]
  exact Int.fdiv_eq_ediv_of_nonneg _ (by exact Int.le_of_lt (Int.pow_pos (by decide)))
theorem br_and {m n : Nat} (h1 : (m : Int) ≤ k.max) (h2 : (n : Int) ≤ k.max) : Bin P .and t (.int k m) (.int k n) (.int k ((m &&& n : Nat) : Int)) := fun _ _ w => by
  have hb : ∀ j : Nat, (j : Int) ≤ k.max → j < 2 ^ k.bits := fun j hj => by cases k <;> simp [IntKind.max, IntKind.signed, IntKind.bits] at hj ⊢ <;> omega
  have e : ∀ j : Nat, BitVec.ofInt k.bits (j : Int) = BitVec.ofNat k.bits j := fun j => by simp
  have hm := hb m h1
  have hle : m &&& n ≤ m := Nat.and_le_left
  have hm0 : k.min ≤ 0 := by cases k <;> decide
  simp only [eqGuard, binOp, Op.intBits, e]
  simp [BitVec.toNat_and, BitVec.toNat_ofNat, Nat.mod_eq_of_lt hm, Nat.mod_eq_of_lt (hb n h2)]
  exact wrap_of (by omega) (by omega)
theorem br_mask {m : Int} {p : Nat} (hp : Nat.ble (p + (bif k.signed then 1 else 0)) k.bits = true) : Bin P .and t (.int k m) (.int k ((2 ^ p - 1 : Nat) : Int)) (.int k (m % (2 ^ p : Nat))) := fun _ _ w => by
  have hp' : p + (bif k.signed then 1 else 0) ≤ k.bits := by simpa using hp
  have hpb : p ≤ k.bits := by omega
  have hlt : 2 ^ p ≤ 2 ^ k.bits := Nat.pow_le_pow_right (by decide) hpb
  have hpos : 0 < 2 ^ p := Nat.pow_pos (by decide)
  have e1 : (BitVec.ofInt k.bits ((2 ^ p - 1 : Nat) : Int)).toNat = 2 ^ p - 1 := by
    rw [show BitVec.ofInt k.bits ((2 ^ p - 1 : Nat) : Int) = BitVec.ofNat k.bits (2 ^ p - 1) from BitVec.ofInt_natCast _ _, BitVec.toNat_ofNat, Nat.mod_eq_of_lt (by omega)]
  have e2 : ((BitVec.ofInt k.bits m).toNat : Int) = m % (2 ^ k.bits : Nat) := by
    rw [BitVec.toNat_ofInt]
    exact Int.toNat_of_nonneg (Int.emod_nonneg _ (by have : 0 < 2 ^ k.bits := Nat.pow_pos (by decide); omega))
  have e3 : (((BitVec.ofInt k.bits m &&& BitVec.ofInt k.bits ((2 ^ p - 1 : Nat) : Int)).toNat : Nat) : Int) = m % (2 ^ p : Nat) := by
    rw [BitVec.toNat_and, e1, Nat.and_two_pow_sub_one_eq_mod, Int.natCast_emod, e2]
    exact Int.emod_emod_of_dvd _ (by exact_mod_cast Nat.pow_dvd_pow 2 hpb)
  have h0 : 0 ≤ m % ((2 ^ p : Nat) : Int) := Int.emod_nonneg _ (by omega)
  have h1 : m % ((2 ^ p : Nat) : Int) < ((2 ^ p : Nat) : Int) := Int.emod_lt_of_pos _ (by omega)
  have h2 : ((2 ^ p : Nat) : Int) ≤ k.max + 1 := by
    have hq : ∀ q : Nat, p ≤ q → ((2 ^ p : Nat) : Int) ≤ ((2 ^ q : Nat) : Int) := fun q h => by
      have := Nat.pow_le_pow_right (n := 2) (by decide) h
      omega
    cases k with
    | i8 => exact hq 7 (by simp [IntKind.signed, IntKind.bits] at hp'; omega)
    | i16 => exact hq 15 (by simp [IntKind.signed, IntKind.bits] at hp'; omega)
    | i32 => exact hq 31 (by simp [IntKind.signed, IntKind.bits] at hp'; omega)
    | i64 => exact hq 63 (by simp [IntKind.signed, IntKind.bits] at hp'; omega)
    | u8 => exact hq 8 (by simp [IntKind.signed, IntKind.bits] at hp'; omega)
    | u16 => exact hq 16 (by simp [IntKind.signed, IntKind.bits] at hp'; omega)
    | u32 => exact hq 32 (by simp [IntKind.signed, IntKind.bits] at hp'; omega)
    | u64 => exact hq 64 (by simp [IntKind.signed, IntKind.bits] at hp'; omega)
  have hm0 : k.min ≤ 0 := by cases k <;> decide
  have hr : Op.intBits .and k m ((2 ^ p - 1 : Nat) : Int) = (pure (.int k (k.wrap (((BitVec.ofInt k.bits m &&& BitVec.ofInt k.bits ((2 ^ p - 1 : Nat) : Int)).toNat : Nat) : Int))) : Sem Value) := rfl
  rw [e3, wrap_of (by omega) (by omega)] at hr
  simp only [eqGuard, binOp, hr]
  simp
theorem br_or {m n : Nat} (h1 : (m : Int) ≤ k.max) (h2 : (n : Int) ≤ k.max) : Bin P .or t (.int k m) (.int k n) (.int k ((m ||| n : Nat) : Int)) := fun _ _ w => by
  have hb : ∀ j : Nat, (j : Int) ≤ k.max → j < 2 ^ k.bits := fun j hj => by cases k <;> simp [IntKind.max, IntKind.signed, IntKind.bits] at hj ⊢ <;> omega
  have e : ∀ j : Nat, BitVec.ofInt k.bits (j : Int) = BitVec.ofNat k.bits j := fun j => by simp
  have hp : ∃ q : Nat, k.max = (2 ^ q : Nat) - 1 := by cases k <;> first | exact ⟨7, by decide⟩ | exact ⟨15, by decide⟩ | exact ⟨31, by decide⟩ | exact ⟨63, by decide⟩ | exact ⟨8, by decide⟩ | exact ⟨16, by decide⟩ | exact ⟨32, by decide⟩ | exact ⟨64, by decide⟩
  obtain ⟨q, hq⟩ := hp
  have hor : m ||| n < 2 ^ q := Nat.or_lt_two_pow (by omega) (by omega)
  have hm0 : k.min ≤ 0 := by cases k <;> decide
  simp only [eqGuard, binOp, Op.intBits, e]
  simp [BitVec.toNat_or, BitVec.toNat_ofNat, Nat.mod_eq_of_lt (hb m h1), Nat.mod_eq_of_lt (hb n h2)]
  exact wrap_of (by omega) (by omega)
theorem br_orS {m n : Int} (p q : Nat) (h0 : 0 ≤ m) (h1 : m < (2 ^ p : Nat)) (hn : n = (q : Int) * (2 ^ p : Nat)) (hb : m + n ≤ k.max) : Bin P .or t (.int k m) (.int k n) (.int k (m + n)) := by
  obtain ⟨a, rfl⟩ : ∃ a : Nat, m = (a : Int) := ⟨m.toNat, (Int.toNat_of_nonneg h0).symm⟩
  have hn' : n = ((q * 2 ^ p : Nat) : Int) := by rw [hn]; simp
  subst hn'
  have ha : a < 2 ^ p := by omega
  have e : a + q * 2 ^ p = a ||| q * 2 ^ p := by
    rw [Nat.add_comm, Nat.or_comm, Nat.mul_comm]
    exact Nat.two_pow_add_eq_or_of_lt ha q
  have := br_or (P := P) (t := t) (k := k) (m := a) (n := q * 2 ^ p) (by omega) (by omega)
  rw [← e] at this
  rw [← Int.natCast_add]
  exact this
theorem br_orS' {m n : Int} (p q : Nat) (h0 : 0 ≤ m) (h1 : m < (2 ^ p : Nat)) (hn : n = (q : Int) * (2 ^ p : Nat)) (hb : n + m ≤ k.max) : Bin P .or t (.int k n) (.int k m) (.int k (n + m)) := by
  obtain ⟨a, rfl⟩ : ∃ a : Nat, m = (a : Int) := ⟨m.toNat, (Int.toNat_of_nonneg h0).symm⟩
  have hn' : n = ((q * 2 ^ p : Nat) : Int) := by rw [hn]; simp
  subst hn'
  have ha : a < 2 ^ p := by omega
  have e : q * 2 ^ p + a = q * 2 ^ p ||| a := by
    rw [Nat.mul_comm]
    exact Nat.two_pow_add_eq_or_of_lt ha q
  have := br_or (P := P) (t := t) (k := k) (m := q * 2 ^ p) (n := a) (by omega) (by omega)
  rw [← e] at this
  rw [← Int.natCast_add]
  exact this
theorem br_xor {m n : Nat} (h1 : (m : Int) ≤ k.max) (h2 : (n : Int) ≤ k.max) : Bin P .xor t (.int k m) (.int k n) (.int k ((m ^^^ n : Nat) : Int)) := fun _ _ w => by
  have hb : ∀ j : Nat, (j : Int) ≤ k.max → j < 2 ^ k.bits := fun j hj => by cases k <;> simp [IntKind.max, IntKind.signed, IntKind.bits] at hj ⊢ <;> omega
  have e : ∀ j : Nat, BitVec.ofInt k.bits (j : Int) = BitVec.ofNat k.bits j := fun j => by simp
  have hp : ∃ q : Nat, k.max = (2 ^ q : Nat) - 1 := by cases k <;> first | exact ⟨7, by decide⟩ | exact ⟨15, by decide⟩ | exact ⟨31, by decide⟩ | exact ⟨63, by decide⟩ | exact ⟨8, by decide⟩ | exact ⟨16, by decide⟩ | exact ⟨32, by decide⟩ | exact ⟨64, by decide⟩
  obtain ⟨q, hq⟩ := hp
  have hor : m ^^^ n < 2 ^ q := Nat.xor_lt_two_pow (by omega) (by omega)
  have hm0 : k.min ≤ 0 := by cases k <;> decide
  simp only [eqGuard, binOp, Op.intBits, e]
  simp [BitVec.toNat_xor, BitVec.toNat_ofNat, Nat.mod_eq_of_lt (hb m h1), Nat.mod_eq_of_lt (hb n h2)]
  exact wrap_of (by omega) (by omega)
end
section
variable {l m : List UInt8}
theorem br_sadd (h : Nat.ble (l.length + m.length) 9223372036854775807 = true) : Bin P .add t (str l) (str m) (str (l ++ m)) := fun _ _ w => by
  have h' : ¬ (IntKind.i64.max < (l.length : Int) + (m.length : Int)) := by
    have : l.length + m.length ≤ 9223372036854775807 := by simpa using h
    have e : IntKind.i64.max = 9223372036854775807 := by decide
    rw [e]; omega
  have hs : ∀ l : List UInt8, (ByteArray.mk l.toArray).size = l.length := fun l => by simp [ByteArray.size]
  have he : IntKind.i64.max = 9223372036854775807 := by decide
  rw [he] at h'
  simp only [eqGuard, binOp, Op.stringOp, hs]
  simp [h', he]
  apply ByteArray.ext
  simp
theorem bytes_toList (l : List UInt8) : (ByteArray.mk l.toArray).toList = l := by
  have key : ∀ (k : Nat) (i : Nat) (r : List UInt8), l.length - i = k → ByteArray.toList.loop ⟨l.toArray⟩ i r = r.reverse ++ l.drop i := by
    intro k
    induction k with
    | zero =>
      intro i r h
      unfold ByteArray.toList.loop
      have : ¬ i < (ByteArray.mk l.toArray).size := by simp [ByteArray.size]; omega
      rw [if_neg this, List.drop_eq_nil_of_le (by omega)]; simp
    | succ k ih =>
      intro i r h
      unfold ByteArray.toList.loop
      have hlt : i < l.length := by omega
      have : i < (ByteArray.mk l.toArray).size := by simpa [ByteArray.size] using hlt
      rw [if_pos this, ih (i + 1) _ (by omega), List.drop_eq_getElem_cons hlt]
      simp [ByteArray.get!, hlt]
  unfold ByteArray.toList
  rw [key _ 0 [] rfl]; simp
theorem lbeq (l m : List UInt8) : (l == m) = decide (l = m) := by rw [Bool.eq_iff_iff]; simp
theorem br_seql : Bin P .eql t (str l) (str m) (.bool (decide (l = m))) := fun _ _ w => by
  simp [eqGuard, binOp, Op.stringOp, bytes_toList, lbeq]
theorem br_sneq : Bin P .neq t (str l) (str m) (.bool (decide (l ≠ m))) := fun _ _ w => by
  simp [eqGuard, binOp, Op.stringOp, bytes_toList, lbeq]
end
end
end Go.Sl
