/-
  Assertions on the heap: lists of parts that lie apart from each other; what a load, a store and a new block do to them. Nothing of a program stands here.
-/
import Derived.RangeFuncLeaves
import Derived.OrdersIn
import Derived.TacticsIn
import Derived.Below
import Derived.Laws.OwnMore
import Derived.Deep.Draws
namespace Go.Sl
open Go

abbrev Hp := Nat → Option Obj
def Hp.le (h k : Hp) : Prop := ∀ i o, h i = some o → k i = some o
def Hp.apart (h k : Hp) : Prop := ∀ i, h i = none ∨ k i = none
def Hp.un (h k : Hp) : Hp := fun i => match h i with | some o => some o | none => k i
abbrev Pt := Hp → Prop
def All : List Pt → Hp → Prop
  | [], _ => True
  | A :: l, h => ∃ h1 h2, Hp.apart h1 h2 ∧ Hp.le h1 h ∧ Hp.le h2 h ∧ A h1 ∧ All l h2
def hpOf (w : World) : Hp := fun i => w.heap[i]?

theorem Hp.le_refl (h : Hp) : h.le h := fun _ _ e => e
theorem Hp.le_trans {a b c : Hp} (h : a.le b) (k : b.le c) : a.le c := fun i o e => k i o (h i o e)
theorem Hp.apart_symm {h k : Hp} (a : h.apart k) : k.apart h := fun i => (a i).symm
theorem Hp.apart_le {h k h' k' : Hp} (a : h.apart k) (hl : h'.le h) (kl : k'.le k) : h'.apart k' := fun i => by
  cases e1 : h' i with
  | none => exact .inl rfl
  | some o =>
    cases e2 : k' i with
    | none => exact .inr rfl
    | some o' =>
      rcases a i with e | e
      · rw [hl i o e1] at e; cases e
      · rw [kl i o' e2] at e; cases e
theorem Hp.le_un_left (h k : Hp) : h.le (h.un k) := fun i o e => by simp [Hp.un, e]
theorem Hp.le_un_right {h k : Hp} (a : h.apart k) : k.le (h.un k) := fun i o e => by
  rcases a i with e' | e'
  · simp [Hp.un, e', e]
  · rw [e] at e'; cases e'
theorem Hp.un_le {h k m : Hp} (a : h.le m) (b : k.le m) : (h.un k).le m := fun i o e => by
  unfold Hp.un at e
  cases e1 : h i with
  | none => rw [e1] at e; exact b i o e
  | some o' => rw [e1] at e; cases e; exact a i o e1
theorem Hp.un_apart {h k m : Hp} (a : h.apart m) (b : k.apart m) : (h.un k).apart m := fun i => by
  rcases a i with e | e
  · rcases b i with e' | e'
    · exact .inl (by simp [Hp.un, e, e'])
    · exact .inr e'
  · exact .inr e

theorem All.mono {l : List Pt} {h k : Hp} (a : All l h) (hk : h.le k) : All l k := by
  cases l with
  | nil => trivial
  | cons A l =>
    obtain ⟨h1, h2, ap, l1, l2, hA, hl⟩ := a
    exact ⟨h1, h2, ap, Hp.le_trans l1 hk, Hp.le_trans l2 hk, hA, hl⟩
theorem All.tail {A : Pt} {l : List Pt} {h : Hp} (a : All (A :: l) h) : All l h := by
  obtain ⟨_, _, _, _, l2, _, hl⟩ := a
  exact hl.mono l2
theorem All.swap {A B : Pt} {l : List Pt} {h : Hp} (a : All (A :: B :: l) h) : All (B :: A :: l) h := by
  obtain ⟨h1, h2, ap, l1, l2, hA, h3, h4, ap', l3, l4, hB, hl⟩ := a
  have a13 : Hp.apart h1 h3 := Hp.apart_le ap (Hp.le_refl _) l3
  have a14 : Hp.apart h1 h4 := Hp.apart_le ap (Hp.le_refl _) l4
  exact ⟨h3, h1.un h4, Hp.apart_symm (Hp.un_apart a13 (Hp.apart_symm ap')), Hp.le_trans l3 l2, Hp.un_le l1 (Hp.le_trans l4 l2), hB,
    h1, h4, a14, Hp.le_un_left _ _, Hp.le_un_right a14, hA, hl⟩
theorem All.imp {l : List Pt} {A B : Pt} {h : Hp} (a : All (A :: l) h) (hi : ∀ k, A k → B k) : All (B :: l) h := by
  obtain ⟨h1, h2, ap, l1, l2, hA, hl⟩ := a
  exact ⟨h1, h2, ap, l1, l2, hi _ hA, hl⟩
theorem All.cons_imp {l l' : List Pt} {A : Pt} {h : Hp} (a : All (A :: l) h) (hi : ∀ k, All l k → All l' k) : All (A :: l') h := by
  obtain ⟨h1, h2, ap, l1, l2, hA, hl⟩ := a
  exact ⟨h1, h2, ap, l1, l2, hA, hi _ hl⟩
theorem All.head {A : Pt} {l : List Pt} {h : Hp} (a : All (A :: l) h) : All [A] h := by
  obtain ⟨h1, h2, ap, l1, l2, hA, _⟩ := a
  exact ⟨h1, h2, ap, l1, l2, hA, trivial⟩
/-- The part at a place, brought to the front. -/
theorem All.pull {l : List Pt} {h : Hp} (i : Nat) {A : Pt} (hi : l[i]? = some A) (a : All l h) : All (A :: l.eraseIdx i) h := by
  induction l generalizing i h with
  | nil => simp at hi
  | cons B l ih =>
    cases i with
    | zero => simp at hi; subst hi; exact a
    | succ i =>
      simp at hi
      exact All.swap (a.cons_imp fun k hk => ih i hi hk)
/-- And back to its place. -/
theorem All.push_ {l : List Pt} {h : Hp} (i : Nat) {A : Pt} (hi : i ≤ l.length) (a : All (A :: l) h) : All (l.insertIdx i A) h := by
  induction l generalizing i h with
  | nil => have : i = 0 := by simpa using hi
           subst this; exact a
  | cons B l ih =>
    cases i with
    | zero => exact a
    | succ i => exact a.swap.cons_imp fun k hk => ih i (by simpa using hi) hk
theorem All.set_ {l : List Pt} {h k : Hp} (i : Nat) {A B : Pt} (hi : l[i]? = some A) (a : All l h)
    (hu : All (A :: l.eraseIdx i) h → All (B :: l.eraseIdx i) k) : All (l.set i B) k := by
  have h1 := hu (a.pull i hi)
  have hlt : i < l.length := by
    rcases Nat.lt_or_ge i l.length with h' | h'
    · exact h'
    · rw [List.getElem?_eq_none h'] at hi; cases hi
  have h2 := h1.push_ i (by rw [List.length_eraseIdx_of_lt hlt]; omega)
  have : (l.eraseIdx i).insertIdx i B = l.set i B := by
    clear h1 h2 hu a hi
    induction l generalizing i with
    | nil => simp at hlt
    | cons C l ih =>
      cases i with
      | zero => rfl
      | succ i => simp only [List.eraseIdx_cons_succ, List.insertIdx_succ_cons, List.set_cons_succ]; rw [ih i (by simpa using hlt)]
  rwa [this] at h2
theorem All.append_iff {l m : List Pt} {h : Hp} : All (l ++ m) h ↔ ∃ h1 h2, Hp.apart h1 h2 ∧ Hp.le h1 h ∧ Hp.le h2 h ∧ All l h1 ∧ All m h2 := by
  induction l generalizing h with
  | nil => exact ⟨fun a => ⟨fun _ => none, h, fun _ => .inl rfl, fun _ _ e => (by cases e), Hp.le_refl _, trivial, a⟩, fun ⟨_, _, _, _, l2, _, hm⟩ => hm.mono l2⟩
  | cons A l ih =>
    constructor
    · rintro ⟨h1, h2, ap, l1, l2, hA, hl⟩
      obtain ⟨h3, h4, ap', l3, l4, hl', hm⟩ := ih.1 hl
      have a13 := Hp.apart_le ap (Hp.le_refl _) l3
      have a14 := Hp.apart_le ap (Hp.le_refl _) l4
      exact ⟨h1.un h3, h4, Hp.un_apart a14 ap', Hp.un_le l1 (Hp.le_trans l3 l2), Hp.le_trans l4 l2,
        ⟨h1, h3, a13, Hp.le_un_left _ _, Hp.le_un_right a13, hA, hl'⟩, hm⟩
    · rintro ⟨h1, h2, ap, l1, l2, ⟨h3, h4, ap', l3, l4, hA, hl⟩, hm⟩
      have a32 := Hp.apart_le ap l3 (Hp.le_refl _)
      have a42 := Hp.apart_le ap l4 (Hp.le_refl _)
      exact ⟨h3, h4.un h2, Hp.apart_symm (Hp.un_apart (Hp.apart_symm ap') (Hp.apart_symm a32)), Hp.le_trans l3 l1, Hp.un_le (Hp.le_trans l4 l1) l2, hA,
        ih.2 ⟨h4, h2, a42, Hp.le_un_left _ _, Hp.le_un_right a42, hl, hm⟩⟩
/-- Of some parts, told by their places, in whatever order. -/
def pickAt {α : Type} (l : List α) : List Nat → Option (List α)
  | [] => some []
  | i :: is => match l[i]?, pickAt l is with
    | some A, some r => some (A :: r)
    | _, _ => none
def distinct : List Nat → Bool
  | [] => true
  | i :: is => is.all (fun j => !Nat.beq i j) && distinct is
theorem All.pick_ {l : List Pt} {h : Hp} (a : All l h) : ∀ (is : List Nat) (r : List Pt), distinct is = true → pickAt l is = some r → All r h := by
  -- by the parts' heaps, told place by place
  have key : ∀ (l : List Pt) (h : Hp), All l h → ∃ f : Nat → Hp, (∀ i j, i ≠ j → Hp.apart (f i) (f j)) ∧ (∀ i, Hp.le (f i) h) ∧ ∀ (i : Nat) (A : Pt), l[i]? = some A → A (f i) := by
    intro l
    induction l with
    | nil => exact fun h _ => ⟨fun _ _ => none, fun _ _ _ _ => .inl rfl, fun _ _ _ e => (by cases e), fun i A e => (by simp at e)⟩
    | cons A l ih =>
      rintro h ⟨h1, h2, ap, l1, l2, hA, hl⟩
      obtain ⟨f, f1, f2, f3⟩ := ih h2 hl
      refine ⟨fun i => match i with | 0 => h1 | i + 1 => f i, ?_, ?_, ?_⟩
      · intro i j hij
        cases i with
        | zero => cases j with
          | zero => exact absurd rfl hij
          | succ j => exact Hp.apart_le ap (Hp.le_refl _) (f2 j)
        | succ i => cases j with
          | zero => exact Hp.apart_symm (Hp.apart_le ap (Hp.le_refl _) (f2 i))
          | succ j => exact f1 i j (by omega)
      · intro i; cases i with
        | zero => exact l1
        | succ i => exact Hp.le_trans (f2 i) l2
      · intro i B hB; cases i with
        | zero => simp at hB; subst hB; exact hA
        | succ i => simp at hB; exact f3 i B hB
  obtain ⟨f, f1, f2, f3⟩ := key l h a
  have fin : ∀ (is : List Nat) (r : List Pt), distinct is = true → pickAt l is = some r → ∃ k : Hp, Hp.le k h ∧ (∀ j, j ∉ is → Hp.apart (f j) k) ∧ All r k := by
    intro is
    induction is with
    | nil => intro r _ hr; simp [pickAt] at hr; subst hr; exact ⟨fun _ => none, fun _ _ e => (by cases e), fun _ _ _ => .inr rfl, trivial⟩
    | cons i is ih =>
      intro r hd hr
      simp only [distinct, Bool.and_eq_true, List.all_eq_true, Bool.not_eq_true', ] at hd
      obtain ⟨hni, hd⟩ := hd
      simp only [pickAt] at hr
      split at hr
      · rename_i A r' hA hr'
        cases hr
        obtain ⟨k, k1, k2, k3⟩ := ih r' hd hr'
        have hi : i ∉ is := fun hm => by have := hni i hm; simp at this
        have ap := k2 i hi
        refine ⟨(f i).un k, Hp.un_le (f2 i) k1, fun j hj => ?_, f i, k, ap, Hp.le_un_left _ _, Hp.le_un_right ap, f3 i A hA, k3⟩
        simp only [List.mem_cons, not_or] at hj
        exact Hp.apart_symm (Hp.un_apart (f1 i j (Ne.symm hj.1)) (Hp.apart_symm (k2 j hj.2)))
      · cases hr
  intro is r hd hr
  obtain ⟨k, k1, _, k3⟩ := fin is r hd hr
  exact k3.mono k1

/-! ### Parts of a world: what lies outside the heap is told to each -/
abbrev Env := Os × Array (Nat × ByteArray)
def envOf (w : World) : Env := (w.os, w.output)
abbrev Assn := Env → Hp → Prop
def at_ (e : Env) (l : List Assn) : List Pt := l.map fun A => A e
def Sat (l : List Assn) (w : World) : Prop := All (at_ (envOf w) l) (hpOf w)
/-- A list of parts as one part. -/
def star (l : List Assn) : Assn := fun e => All (at_ e l)
theorem eraseIdx_map' {α β : Type} (f : α → β) : ∀ (l : List α) (i : Nat), (l.map f).eraseIdx i = (l.eraseIdx i).map f
  | [], _ => rfl
  | _ :: _, 0 => rfl
  | a :: l, i + 1 => congrArg (f a :: ·) (eraseIdx_map' f l i)
theorem pickAt_map {α β : Type} (f : α → β) (l : List α) : ∀ (is : List Nat) {r : List α}, pickAt l is = some r → pickAt (l.map f) is = some (r.map f)
  | [], r, h => by simp [pickAt] at h; subst h; rfl
  | i :: is, r, h => by
    simp only [pickAt] at h ⊢
    split at h
    · rename_i A r' h1 h2
      cases h
      rw [List.getElem?_map, h1, pickAt_map f l is h2]; rfl
    · cases h

section
variable {w w' : World} {l m : List Assn} {A B : Assn}
theorem Sat.nil : Sat [] w := trivial
theorem Sat.tail (h : Sat (A :: l) w) : Sat l w := All.tail h
theorem Sat.swap (h : Sat (A :: B :: l) w) : Sat (B :: A :: l) w := All.swap h
theorem Sat.pull (i : Nat) (hi : l[i]? = some A) (h : Sat l w) : Sat (A :: l.eraseIdx i) w := by
  have := All.pull i (A := A (envOf w)) (by rw [at_, List.getElem?_map, hi]; rfl) h
  rw [at_, eraseIdx_map'] at this
  exact this
theorem Sat.pick (h : Sat l w) (is : List Nat) {r : List Assn} (hd : distinct is = true) (hr : pickAt l is = some r) : Sat r w := All.pick_ h is _ hd (pickAt_map _ _ _ hr)
def dropO : Nat → List Assn → Option (List Assn)
  | 0, l => some l
  | _ + 1, [] => some []
  | n + 1, _ :: l => dropO n l
def pickD (l : List Assn) (n : Nat) : List Nat → Option (List Assn)
  | [] => dropO n l
  | i :: is => match l[i]?, pickD l n is with
    | some A, some r => some (A :: r)
    | _, _ => none
theorem dropO_eq : ∀ (n : Nat) (l : List Assn), dropO n l = some (l.drop n)
  | 0, _ => rfl
  | _ + 1, [] => rfl
  | n + 1, _ :: l => dropO_eq n l
theorem pickD_eq (l : List Assn) (n : Nat) : ∀ (is : List Nat) (r : List Assn), (is.all fun i => Nat.blt i n) = true → pickD l n is = some r → ∃ r', pickAt (l.take n) is = some r' ∧ r = r' ++ l.drop n
  | [], r, _, h => ⟨[], rfl, by simp only [pickD, dropO_eq, Option.some.injEq] at h; simp [← h]⟩
  | i :: is, r, hb, h => by
    simp only [List.all_cons, Bool.and_eq_true, Nat.blt_eq] at hb
    simp only [pickD] at h
    split at h
    · rename_i A r2 h1 h2
      cases h
      obtain ⟨r', h3, rfl⟩ := pickD_eq l n is r2 hb.2 h2
      exact ⟨A :: r', by simp only [pickAt, List.getElem?_take, if_pos hb.1, h1, h3], rfl⟩
    · cases h
/-- Among the first n parts. -/
theorem Sat.pickF (n : Nat) (is : List Nat) {r : List Assn} (hd : (distinct is && is.all fun i => Nat.blt i n) = true) (hr : pickD l n is = some r) (h : Sat l w) : Sat r w := by
  simp only [Bool.and_eq_true] at hd
  obtain ⟨r', h1, rfl⟩ := pickD_eq l n is r hd.2 hr
  have h' : All (at_ (envOf w) (l.take n) ++ at_ (envOf w) (l.drop n)) (hpOf w) := by rw [at_, at_, ← List.map_append, List.take_append_drop]; exact h
  obtain ⟨h2, h3, ap, l1, l2, ha, hb⟩ := All.append_iff.1 h'
  have := All.append_iff.2 ⟨h2, h3, ap, l1, l2, ha.pick_ is _ hd.1 (pickAt_map _ _ _ h1), hb⟩
  rw [at_, ← List.map_append] at this
  exact this
theorem Sat.imp (h : Sat (A :: l) w) (hi : ∀ e k, A e k → B e k) : Sat (B :: l) w := All.imp h (hi _)
theorem Sat.imp_at (i : Nat) (hi : l[i]? = some A) (h : Sat l w) (hb : ∀ e k, A e k → B e k) : Sat (l.set i B) w := by
  have := All.set_ i (A := A (envOf w)) (B := B (envOf w)) (by rw [at_, List.getElem?_map, hi]; rfl) h fun a => a.imp (hb _)
  rw [at_, ← List.map_set] at this
  exact this
theorem erase_insert {α : Type} (B : α) : ∀ (l : List α) (i : Nat), i < l.length → (l.eraseIdx i).insertIdx i B = l.set i B
  | [], i, h => by simp at h
  | C :: l, 0, _ => rfl
  | C :: l, i + 1, h => by
    simp only [List.eraseIdx_cons_succ, List.insertIdx_succ_cons, List.set_cons_succ]; rw [erase_insert B l i (by simpa using h)]
theorem at_insert (e : Env) (A : Assn) : ∀ (l : List Assn) (i : Nat), (at_ e l).insertIdx i (A e) = at_ e (l.insertIdx i A)
  | l, 0 => rfl
  | [], i + 1 => rfl
  | B :: l, i + 1 => by
    have := at_insert e A l i
    simp only [at_, List.map_cons, List.insertIdx_succ_cons] at this ⊢
    rw [this]
theorem Sat.set_at (i : Nat) (hi : l[i]? = some A) (h : Sat l w) (hu : ∀ rest, Sat (A :: rest) w → Sat (B :: rest) w') : Sat (l.set i B) w' := by
  have hlt : i < l.length := by
    rcases Nat.lt_or_ge i l.length with h' | h'
    · exact h'
    · rw [List.getElem?_eq_none h'] at hi; cases hi
  have h1 : All (B (envOf w') :: at_ (envOf w') (l.eraseIdx i)) (hpOf w') := hu _ (h.pull i hi)
  have h2 := h1.push_ i (by simp [at_, List.length_eraseIdx_of_lt hlt]; omega)
  rw [at_insert, erase_insert B l i hlt] at h2
  exact h2
theorem Sat.unstar (h : Sat (star l :: m) w) : Sat (l ++ m) w := by
  have := (All.append_iff (l := at_ (envOf w) l) (m := at_ (envOf w) m)).2 h
  rw [at_, at_, ← List.map_append] at this
  exact this
theorem Sat.restar (h : Sat (l ++ m) w) : Sat (star l :: m) w := by
  have h : All (at_ (envOf w) (l ++ m)) (hpOf w) := h
  rw [at_, List.map_append] at h
  exact All.append_iff.1 h
theorem Sat.of_heap (h : Sat l w) (e : w'.heap = w.heap) (he : envOf w' = envOf w) : Sat l w' := by
  unfold Sat hpOf at *; rwa [e, he]
theorem Sat.drew (h : Sat l w) : Sat l w.drew := h
theorem Sat.ext (h : Sat l w) (e : ∀ (i : Nat) (o : Obj), w.heap[i]? = some o → w'.heap[i]? = some o) (he : envOf w' = envOf w) : Sat l w' := by
  unfold Sat; rw [he]; exact All.mono h e
/-- What a part says, alone. -/
theorem Sat.alone (h : Sat (A :: l) w) : Sat [A] w := All.head h
theorem Sat.alone_at (i : Nat) (hi : l[i]? = some A) (h : Sat l w) : Sat [A] w := (h.pull i hi).alone
/-- THE LOCAL CHANGE: the first part turns into another; whatever lies outside it stays. -/
theorem Sat.change (h : Sat (A :: l) w) (he : envOf w' = envOf w)
    (hc : ∀ h1, A (envOf w) h1 → Hp.le h1 (hpOf w) → ∃ h1', B (envOf w) h1' ∧ Hp.le h1' (hpOf w') ∧ (∀ i o, h1' i = some o → i < w.heap.size → (h1 i).isSome = true) ∧
      ∀ i, h1 i = none → i < w.heap.size → w'.heap[i]? = w.heap[i]?) : Sat (B :: l) w' := by
  obtain ⟨h1, h2, ap, l1, l2, hA, hl⟩ := h
  obtain ⟨h1', hB, l1', hdom, hsame⟩ := hc h1 hA l1
  unfold Sat
  rw [he]
  have hlt : ∀ i o, h2 i = some o → i < w.heap.size ∧ h1 i = none := fun i o e => by
    refine ⟨?_, ?_⟩
    · have : w.heap[i]? = some o := l2 i o e
      exact (Array.getElem?_eq_some_iff.1 this).1
    · rcases ap i with e' | e'
      · exact e'
      · rw [e] at e'; cases e'
  refine ⟨h1', h2, fun i => ?_, l1', fun i o e => ?_, hB, hl⟩
  · cases e : h2 i with
    | none => exact .inr rfl
    | some o =>
      left
      obtain ⟨hi, h1n⟩ := hlt i o e
      cases e' : h1' i with
      | none => rfl
      | some o' =>
        have := hdom i o' e' hi
        rw [h1n] at this; cases this
  · obtain ⟨hi, h1n⟩ := hlt i o e
    show w'.heap[i]? = some o
    rw [hsame i h1n hi]
    exact l2 i o e
/-- A new part on new blocks, what was there unturned. -/
theorem Sat.fresh (h : Sat l w) (he : envOf w' = envOf w) (hsame : ∀ i, i < w.heap.size → w'.heap[i]? = w.heap[i]?) (k : Hp) (hB : B (envOf w) k) (hk : Hp.le k (hpOf w')) (hnew : ∀ i o, k i = some o → w.heap.size ≤ i) : Sat (B :: l) w' := by
  unfold Sat
  rw [he]
  refine ⟨k, hpOf w, fun i => ?_, hk, fun i o e => ?_, hB, h⟩
  · cases e : k i with
    | none => exact .inl rfl
    | some o => right; exact Array.getElem?_eq_none (hnew i o e)
  · show w'.heap[i]? = some o
    have : w.heap[i]? = some o := e
    rw [hsame i (Array.getElem?_eq_some_iff.1 this).1]
    exact e
end

/-- n times a value: by a name of its own, so that nobody writes it out. -/
def reps (n : Nat) (v : Value) : List Value := List.replicate n v
@[simp] theorem reps_length (n : Nat) (v : Value) : (reps n v).length = n := by simp [reps]
/-- n times a byte. -/
def many (n : Nat) (c : UInt8) : List UInt8 := List.replicate n c
@[simp] theorem many_length (n : Nat) (c : UInt8) : (many n c).length = n := by simp [many]
theorem many_succ (n : Nat) (c : UInt8) : many (n + 1) c = c :: many n c := rfl
theorem many_succ' (n : Nat) (c : UInt8) : many (n + 1) c = many n c ++ [c] := List.replicate_succ'
theorem many_take (n m : Nat) (c : UInt8) : (many n c).take m = many (min m n) c := by simp [many, List.take_replicate]
theorem many_drop (n m : Nat) (c : UInt8) : (many n c).drop m = many (n - m) c := by simp [many, List.drop_replicate]
theorem many_append (n m : Nat) (c : UInt8) : many n c ++ many m c = many (n + m) c := by simp [many]

/-! ### The parts -/
/-- None of a row's cells may not be written. -/
def free (n : Nat) (f : Nat × Nat) : Prop := ∀ i, i < n → ¬ (f.1 ≤ i ∧ i < f.2)
/-- Block b is a row of cells. -/
def blk (b : Nat) (l : List Value) (t : TypeId) : Assn := fun _ h => ∃ f, h b = some (.cells l.toArray t f) ∧ free l.length f
/-- Block b is an object of whatever kind. -/
def obj (b : Nat) (o : Obj) : Assn := fun _ h => h b = some o
/-- All that lay in a world. -/
def old (W : World) : Assn := fun e h => e = envOf W ∧ ∀ i, i < W.heap.size → h i = W.heap[i]?
/-- A fact. -/
def fact (p : Prop) : Assn := fun _ _ => p
/-- There is one. -/
def ex {α : Type} (A : α → Assn) : Assn := fun e h => ∃ x, A x e h

section
variable {w w' : World} {l : List Assn} {b : Nat} {cs : List Value} {t : TypeId}
theorem Sat.fact_iff {p : Prop} : Sat (fact p :: l) w ↔ p ∧ Sat l w :=
  ⟨fun h => ⟨by obtain ⟨_, _, _, _, _, hp, _⟩ := h; exact hp, h.tail⟩, fun h => ⟨fun _ => none, hpOf w, fun _ => .inl rfl, fun _ _ e => (by cases e), Hp.le_refl _, h.1, h.2⟩⟩
theorem Sat.ex_iff {α : Type} {A : α → Assn} : Sat (ex A :: l) w ↔ ∃ x, Sat (A x :: l) w :=
  ⟨fun ⟨h1, h2, a, b, c, ⟨x, hx⟩, d⟩ => ⟨x, h1, h2, a, b, c, hx, d⟩, fun ⟨x, h1, h2, a, b, c, hx, d⟩ => ⟨h1, h2, a, b, c, ⟨x, hx⟩, d⟩⟩
theorem Sat.old_self (w : World) : Sat [old w] w := ⟨hpOf w, fun _ => none, fun _ => .inr rfl, Hp.le_refl _, fun _ _ e => (by cases e), ⟨rfl, fun _ _ => rfl⟩, trivial⟩
theorem Sat.old_same {W : World} (h : Sat (old W :: l) w) : ∀ i, i < W.heap.size → w.heap[i]? = W.heap[i]? := by
  obtain ⟨h1, _, _, l1, _, ⟨_, ho⟩, _⟩ := h
  intro i hi
  have he : W.heap[i]? = some W.heap[i] := Array.getElem?_eq_getElem hi
  rw [he]
  exact l1 i _ ((ho i hi).trans he)
theorem Sat.old_env {W : World} (h : Sat (old W :: l) w) : envOf w = envOf W := by
  obtain ⟨h1, _, _, l1, _, ⟨e, _⟩, _⟩ := h
  exact e
theorem Sat.obj_heap {o : Obj} (h : Sat (obj b o :: l) w) : w.heap[b]? = some o := by
  obtain ⟨h1, _, _, l1, _, ho, _⟩ := h
  exact l1 b o ho
theorem Sat.blk_heap (h : Sat (blk b cs t :: l) w) : ∃ f, w.heap[b]? = some (.cells cs.toArray t f) ∧ free cs.length f := by
  obtain ⟨h1, _, _, l1, _, ⟨f, ho, hf⟩, _⟩ := h
  exact ⟨f, l1 b _ ho, hf⟩
theorem Sat.blk_cell (h : Sat (blk b cs t :: l) w) (i : Nat) : w.cell? ⟨b, i, none⟩ = cs[i]? := by
  obtain ⟨f, hb, _⟩ := h.blk_heap
  simp [World.cell?, hb]
theorem Sat.blk_frozen (h : Sat (blk b cs t :: l) w) (i : Nat) (hi : i < cs.length) : w.frozen? ⟨b, i, none⟩ = false := by
  obtain ⟨f, hb, hf⟩ := h.blk_heap
  obtain ⟨lo, hi'⟩ := f
  have := hf i hi
  simp only [World.frozen?, hb]
  simp only [Bool.and_eq_false_iff, decide_eq_false_iff_not]
  simp only [not_and] at this
  by_cases h1 : lo ≤ i
  · exact .inr (this h1)
  · exact .inl h1
/-- A block replaced by another object. -/
theorem Sat.put_at {o' : Obj} {A B : Assn} (h : Sat (A :: l) w) (hA : ∀ e k, A e k → (k b).isSome = true) (hlt : b < w.heap.size) (he : w'.heap = w.heap.setIfInBounds b o') (hw : envOf w' = envOf w) (hB : ∀ e (k : Hp), k b = some o' → B e k) : Sat (B :: l) w' := by
  refine h.change hw fun h1 h1A h1l => ⟨fun i => if i = b then some o' else none, hB _ _ (by simp), fun i o e => ?_, fun i o e hi => ?_, fun i e hi => ?_⟩
  · by_cases hib : i = b
    · subst hib
      simp at e; subst e
      show w'.heap[i]? = some o'
      rw [he]; simp [hlt]
    · simp [hib] at e
  · by_cases hib : i = b
    · subst hib; exact hA _ h1 h1A
    · simp [hib] at e
  · have hib : b ≠ i := by
      rintro rfl
      have := hA _ h1 h1A
      rw [e] at this; cases this
    rw [he, Array.getElem?_setIfInBounds_ne hib]
theorem heap_setCell_eq (w : World) (b i : Nat) (v : Value) {cs : Array Value} {f : Nat × Nat} (hb : w.heap[b]? = some (.cells cs t f)) :
    (w.setCell ⟨b, i, none⟩ v).heap = w.heap.setIfInBounds b (.cells (cs.setIfInBounds i v) t f) := by
  have hlt := (Array.getElem?_eq_some_iff.1 hb).1
  have he := (Array.getElem?_eq_some_iff.1 hb).2
  apply Array.ext_getElem?
  intro j
  show (w.heap.modify b _)[j]? = _
  by_cases hj : b = j
  · subst hj
    rw [Array.getElem?_eq_getElem (by rw [Array.size_modify]; exact hlt), Array.getElem_modify_self, he, Array.getElem?_setIfInBounds_self_of_lt hlt]
    rfl
  · rw [Array.getElem?_modify, if_neg hj, Array.getElem?_setIfInBounds_ne hj]
theorem Sat.setCell (h : Sat (blk b cs t :: l) w) (i : Nat) (v : Value) : Sat (blk b (cs.set i v) t :: l) (w.setCell ⟨b, i, none⟩ v) := by
  obtain ⟨f, hb, hf⟩ := h.blk_heap
  refine h.put_at (b := b) (fun _ k ⟨f, hk, _⟩ => by rw [hk]; rfl) (Array.getElem?_eq_some_iff.1 hb).1 (heap_setCell_eq w b i v hb) rfl fun _ k hk => ⟨f, ?_, ?_⟩
  · rw [hk]; simp
  · simpa using hf
theorem Sat.alloc (h : Sat l w) (cs : List Value) (t : TypeId) : Sat (blk w.heap.size cs t :: l) (w.alloc (.cells cs.toArray t)) := by
  refine h.fresh rfl (fun i hi => heap_alloc_old w _ i hi) (fun i => if i = w.heap.size then some (.cells cs.toArray t (0, 0)) else none) ⟨(0, 0), by simp, fun i _ hh => by omega⟩ (fun i o e => ?_) (fun i o e => ?_)
  · by_cases hi : i = w.heap.size
    · subst hi; simp at e; subst e; exact heap_alloc_new w _
    · simp [hi] at e
  · by_cases hi : i = w.heap.size
    · omega
    · simp [hi] at e
theorem Sat.allocObj (h : Sat l w) (o : Obj) : Sat (obj w.heap.size o :: l) (w.alloc o) := by
  refine h.fresh rfl (fun i hi => heap_alloc_old w _ i hi) (fun i => if i = w.heap.size then some o else none) (by simp [obj]) (fun i o' e => ?_) (fun i o' e => ?_)
  · by_cases hi : i = w.heap.size
    · subst hi; simp at e; subst e; exact heap_alloc_new w _
    · simp [hi] at e
  · by_cases hi : i = w.heap.size
    · omega
    · simp [hi] at e
theorem Sat.putObj {o o' : Obj} (h : Sat (obj b o :: l) w) : Sat (obj b o' :: l) { w with heap := w.heap.setIfInBounds b o' } :=
  h.put_at (b := b) (fun _ k hk => by rw [show k b = some o from hk]; rfl) (Array.getElem?_eq_some_iff.1 h.obj_heap).1 rfl rfl fun _ _ hk => hk
end
end Go.Sl
