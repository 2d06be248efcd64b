/-
  Assertions on the heap: lists of parts that lie apart from each other; what a load, a store and a new block do to them | Trees in pages, as plain functions
-/
import Derived.RangeFuncLeaves
import Derived.OrdersIn
import Derived.TacticsIn
import Derived.Below
import Derived.Laws.OwnMore
import Derived.Deep.Draws
namespace Go.Sl
open Go

abbrev Hp := Nat → Option Obj
def Hp.le (h k : Hp) : Prop := ∀ i o, h i = some o → k i = some o
def Hp.apart (h k : Hp) : Prop := ∀ i, h i = none ∨ k i = none
def Hp.un (h k : Hp) : Hp := fun i => match h i with | some o => some o | none => k i
abbrev Pt := Hp → Prop
def All : List Pt → Hp → Prop
  | [], _ => True
  | A :: l, h => ∃ h1 h2, Hp.apart h1 h2 ∧ Hp.le h1 h ∧ Hp.le h2 h ∧ A h1 ∧ All l h2
def hpOf (w : World) : Hp := fun i => w.heap[i]?

theorem Hp.le_refl (h : Hp) : h.le h := fun _ _ e => e
theorem Hp.le_trans {a b c : Hp} (h : a.le b) (k : b.le c) : a.le c := fun i o e => k i o (h i o e)
theorem Hp.apart_symm {h k : Hp} (a : h.apart k) : k.apart h := fun i => (a i).symm
theorem Hp.apart_le {h k h' k' : Hp} (a : h.apart k) (hl : h'.le h) (kl : k'.le k) : h'.apart k' := fun i => by
  cases e1 : h' i with
  | none => exact .inl rfl
  | some o =>
    cases e2 : k' i with
    | none => exact .inr rfl
    | some o' =>
      rcases a i with e | e
      · rw [hl i o e1] at e; cases e
      · rw [kl i o' e2] at e; cases e
theorem Hp.le_un_left (h k : Hp) : h.le (h.un k) := fun i o e => by simp [Hp.un, e]
theorem Hp.le_un_right {h k : Hp} (a : h.apart k) : k.le (h.un k) := fun i o e => by
  rcases a i with e' | e'
  · simp [Hp.un, e', e]
  · rw [e] at e'; cases e'
theorem Hp.un_le {h k m : Hp} (a : h.le m) (b : k.le m) : (h.un k).le m := fun i o e => by
  unfold Hp.un at e
  cases e1 : h i with
  | none => rw [e1] at e; exact b i o e
  | some o' => rw [e1] at e; cases e; exact a i o e1
theorem Hp.un_apart {h k m : Hp} (a : h.apart m) (b : k.apart m) : (h.un k).apart m := fun i => by
  rcases a i with e | e
  · rcases b i with e' | e'
    · exact .inl (by simp [Hp.un, e, e'])
    · exact .inr e'
  · exact .inr e

theorem All.mono {l : List Pt} {h k : Hp} (a : All l h) (hk : h.le k) : All l k := by
  cases l with
  | nil => trivial
  | cons A l =>
    obtain ⟨h1, h2, ap, l1, l2, hA, hl⟩ := a
    exact ⟨h1, h2, ap, Hp.le_trans l1 hk, Hp.le_trans l2 hk, hA, hl⟩
theorem All.tail {A : Pt} {l : List Pt} {h : Hp} (a : All (A :: l) h) : All l h := by
  obtain ⟨_, _, _, _, l2, _, hl⟩ := a
  exact hl.mono l2
theorem All.swap {A B : Pt} {l : List Pt} {h : Hp} (a : All (A :: B :: l) h) : All (B :: A :: l) h := by
  obtain ⟨h1, h2, ap, l1, l2, hA, h3, h4, ap', l3, l4, hB, hl⟩ := a
  have a13 : Hp.apart h1 h3 := Hp.apart_le ap (Hp.le_refl _) l3
  have a14 : Hp.apart h1 h4 := Hp.apart_le ap (Hp.le_refl _) l4
  exact ⟨h3, h1.un h4, Hp.apart_symm (Hp.un_apart a13 (Hp.apart_symm ap')), Hp.le_trans l3 l2, Hp.un_le l1 (Hp.le_trans l4 l2), hB,
    h1, h4, a14, Hp.le_un_left _ _, Hp.le_un_right a14, hA, hl⟩
theorem All.imp {l : List Pt} {A B : Pt} {h : Hp} (a : All (A :: l) h) (hi : ∀ k, A k → B k) : All (B :: l) h := by
  obtain ⟨h1, h2, ap, l1, l2, hA, hl⟩ := a
  exact ⟨h1, h2, ap, l1, l2, hi _ hA, hl⟩
theorem All.cons_imp {l l' : List Pt} {A : Pt} {h : Hp} (a : All (A :: l) h) (hi : ∀ k, All l k → All l' k) : All (A :: l') h := by
  obtain ⟨h1, h2, ap, l1, l2, hA, hl⟩ := a
  exact ⟨h1, h2, ap, l1, l2, hA, hi _ hl⟩
theorem All.head {A : Pt} {l : List Pt} {h : Hp} (a : All (A :: l) h) : All [A] h := by
  obtain ⟨h1, h2, ap, l1, l2, hA, _⟩ := a
  exact ⟨h1, h2, ap, l1, l2, hA, trivial⟩
theorem All.pull {l : List Pt} {h : Hp} (i : Nat) {A : Pt} (hi : l[i]? = some A) (a : All l h) : All (A :: l.eraseIdx i) h := by
  induction l generalizing i h with
  | nil => simp at hi
  | cons B l ih =>
    cases i with
    | zero => simp at hi; subst hi; exact a
    | succ i =>
      simp at hi
      exact All.swap (a.cons_imp fun k hk => ih i hi hk)
theorem All.push_ {l : List Pt} {h : Hp} (i : Nat) {A : Pt} (hi : i ≤ l.length) (a : All (A :: l) h) : All (l.insertIdx i A) h := by
  induction l generalizing i h with
  | nil => have : i = 0 := by simpa using hi
           subst this; exact a
  | cons B l ih =>
    cases i with
    | zero => exact a
    | succ i => exact a.swap.cons_imp fun k hk => ih i (by simpa using hi) hk
theorem All.append_iff {l m : List Pt} {h : Hp} : All (l ++ m) h ↔ ∃ h1 h2, Hp.apart h1 h2 ∧ Hp.le h1 h ∧ Hp.le h2 h ∧ All l h1 ∧ All m h2 := by
  induction l generalizing h with
  | nil => exact ⟨fun a => ⟨fun _ => none, h, fun _ => .inl rfl, fun _ _ e => (by cases e), Hp.le_refl _, trivial, a⟩, fun ⟨_, _, _, _, l2, _, hm⟩ => hm.mono l2⟩
  | cons A l ih =>
    constructor
    · rintro ⟨h1, h2, ap, l1, l2, hA, hl⟩
      obtain ⟨h3, h4, ap', l3, l4, hl', hm⟩ := ih.1 hl
      have a13 := Hp.apart_le ap (Hp.le_refl _) l3
      have a14 := Hp.apart_le ap (Hp.le_refl _) l4
      exact ⟨h1.un h3, h4, Hp.un_apart a14 ap', Hp.un_le l1 (Hp.le_trans l3 l2), Hp.le_trans l4 l2,
        ⟨h1, h3, a13, Hp.le_un_left _ _, Hp.le_un_right a13, hA, hl'⟩, hm⟩
    · rintro ⟨h1, h2, ap, l1, l2, ⟨h3, h4, ap', l3, l4, hA, hl⟩, hm⟩
      have a32 := Hp.apart_le ap l3 (Hp.le_refl _)
      have a42 := Hp.apart_le ap l4 (Hp.le_refl _)
      exact ⟨h3, h4.un h2, Hp.apart_symm (Hp.un_apart (Hp.apart_symm ap') (Hp.apart_symm a32)), Hp.le_trans l3 l1, Hp.un_le (Hp.le_trans l4 l1) l2, hA,
        ih.2 ⟨h4, h2, a42, Hp.le_un_left _ _, Hp.le_un_right a42, hl, hm⟩⟩
def pickAt {α : Type} (l : List α) : List Nat → Option (List α)
  | [] => some []
  | i :: is => match l[i]?, pickAt l is with
    | some A, some r => some (A :: r)
    | _, _ => none
def distinct : List Nat → Bool
  | [] => true
  | i :: is => is.all (fun j => !Nat.beq i j) && distinct is
theorem All.pick_ {l : List Pt} {h : Hp} (a : All l h) : ∀ (is : List Nat) (r : List Pt), distinct is = true → pickAt l is = some r → All r h := by
  -- by the parts' heaps, told place by place
  have key : ∀ (l : List Pt) (h : Hp), All l h → ∃ f : Nat → Hp, (∀ i j, i ≠ j → Hp.apart (f i) (f j)) ∧ (∀ i, Hp.le (f i) h) ∧ ∀ (i : Nat) (A : Pt), l[i]? = some A → A (f i) := by
    intro l
    induction l with
    | nil => exact fun h _ => ⟨fun _ _ => none, fun _ _ _ _ => .inl rfl, fun _ _ _ e => (by cases e), fun i A e => (by simp at e)⟩
    | cons A l ih =>
      rintro h ⟨h1, h2, ap, l1, l2, hA, hl⟩
      obtain ⟨f, f1, f2, f3⟩ := ih h2 hl
      refine ⟨fun i => match i with | 0 => h1 | i + 1 => f i, ?_, ?_, ?_⟩
      · intro i j hij
        cases i with
        | zero => cases j with
          | zero => exact absurd rfl hij
          | succ j => exact Hp.apart_le ap (Hp.le_refl _) (f2 j)
        | succ i => cases j with
          | zero => exact Hp.apart_symm (Hp.apart_le ap (Hp.le_refl _) (f2 i))
          | succ j => exact f1 i j (by omega)
      · intro i; cases i with
        | zero => exact l1
        | succ i => exact Hp.le_trans (f2 i) l2
      · intro i B hB; cases i with
        | zero => simp at hB; subst hB; exact hA
        | succ i => simp at hB; exact f3 i B hB
  obtain ⟨f, f1, f2, f3⟩ := key l h a
  have fin : ∀ (is : List Nat) (r : List Pt), distinct is = true → pickAt l is = some r → ∃ k : Hp, Hp.le k h ∧ (∀ j, j ∉ is → Hp.apart (f j) k) ∧ All r k := by
    intro is
    induction is with
    | nil => intro r _ hr; simp [pickAt] at hr; subst hr; exact ⟨fun _ => none, fun _ _ e => (by cases e), fun _ _ _ => .inr rfl, trivial⟩
    | cons i is ih =>
      intro r hd hr
      simp only [distinct, Bool.and_eq_true, List.all_eq_true, Bool.not_eq_true', ] at hd
      obtain ⟨hni, hd⟩ := hd
      simp only [pickAt] at hr
      split at hr
      · rename_i A r' hA hr'
        cases hr
        obtain ⟨k, k1, k2, k3⟩ := ih r' hd hr'
        have hi : i ∉ is := fun hm => by have := hni i hm; simp at this
        have ap := k2 i hi
        refine ⟨(f i).un k, Hp.un_le (f2 i) k1, fun j hj => ?_, f i, k, ap, Hp.le_un_left _ _, Hp.le_un_right ap, f3 i A hA, k3⟩
        simp only [List.mem_cons, not_or] at hj
        exact Hp.apart_symm (Hp.un_apart (f1 i j (Ne.symm hj.1)) (Hp.apart_symm (k2 j hj.2)))
      · cases hr
  intro is r hd hr
  obtain ⟨k, k1, _, k3⟩ := fin is r hd hr
  exact k3.mono k1

abbrev Env := Os × Array (Nat × ByteArray)
def envOf (w : World) : Env := (w.os, w.output)
abbrev Assn := Env → Hp → Prop
def at_ (e : Env) (l : List Assn) : List Pt := l.map fun A => A e
def Sat (l : List Assn) (w : World) : Prop := All (at_ (envOf w) l) (hpOf w)
def star (l : List Assn) : Assn := fun e => All (at_ e l)
theorem eraseIdx_map' {α β : Type} (f : α → β) : ∀ (l : List α) (i : Nat), (l.map f).eraseIdx i = (l.eraseIdx i).map f
  | [], _ => rfl
  | _ :: _, 0 => rfl
  | a :: l, i + 1 => congrArg (f a :: ·) (eraseIdx_map' f l i)
theorem pickAt_map {α β : Type} (f : α → β) (l : List α) : ∀ (is : List Nat) {r : List α}, pickAt l is = some r → pickAt (l.map f) is = some (r.map f)
  | [], r, h => by simp [pickAt] at h; subst h; rfl
  | i :: is, r, h => by
    simp only [pickAt] at h ⊢
    split at h
    · rename_i A r' h1 h2
      cases h
      rw [List.getElem?_map, h1, pickAt_map f l is h2]; rfl
    · cases h

section
variable {w w' : World} {l m : List Assn} {A B : Assn}
theorem Sat.nil : Sat [] w := trivial
theorem Sat.tail (h : Sat (A :: l) w) : Sat l w := All.tail h
theorem Sat.swap (h : Sat (A :: B :: l) w) : Sat (B :: A :: l) w := All.swap h
theorem Sat.pull (i : Nat) (hi : l[i]? = some A) (h : Sat l w) : Sat (A :: l.eraseIdx i) w := by
  have := All.pull i (A := A (envOf w)) (by rw [at_, List.getElem?_map, hi]; rfl) h
  rw [at_, eraseIdx_map'] at this
  exact this
theorem Sat.pick (h : Sat l w) (is : List Nat) {r : List Assn} (hd : distinct is = true) (hr : pickAt l is = some r) : Sat r w := All.pick_ h is _ hd (pickAt_map _ _ _ hr)
def dropO : Nat → List Assn → Option (List Assn)
  | 0, l => some l
  | _ + 1, [] => some []
  | n + 1, _ :: l => dropO n l
def pickD (l : List Assn) (n : Nat) : List Nat → Option (List Assn)
  | [] => dropO n l
  | i :: is => match l[i]?, pickD l n is with
    | some A, some r => some (A :: r)
    | _, _ => none
theorem dropO_eq : ∀ (n : Nat) (l : List Assn), dropO n l = some (l.drop n)
  | 0, _ => rfl
  | _ + 1, [] => rfl
  | n + 1, _ :: l => dropO_eq n l
theorem pickD_eq (l : List Assn) (n : Nat) : ∀ (is : List Nat) (r : List Assn), (is.all fun i => Nat.blt i n) = true → pickD l n is = some r → ∃ r', pickAt (l.take n) is = some r' ∧ r = r' ++ l.drop n
  | [], r, _, h => ⟨[], rfl, by simp only [pickD, dropO_eq, Option.some.injEq] at h; simp [← h]⟩
  | i :: is, r, hb, h => by
    simp only [List.all_cons, Bool.and_eq_true, Nat.blt_eq] at hb
    simp only [pickD] at h
    split at h
    · rename_i A r2 h1 h2
      cases h
      obtain ⟨r', h3, rfl⟩ := pickD_eq l n is r2 hb.2 h2
      exact ⟨A :: r', by simp only [pickAt, List.getElem?_take, if_pos hb.1, h1, h3], rfl⟩
    · cases h
theorem Sat.pickF (n : Nat) (is : List Nat) {r : List Assn} (hd : (distinct is && is.all fun i => Nat.blt i n) = true) (hr : pickD l n is = some r) (h : Sat l w) : Sat r w := by
  simp only [Bool.and_eq_true] at hd
  obtain ⟨r', h1, rfl⟩ := pickD_eq l n is r hd.2 hr
  have h' : All (at_ (envOf w) (l.take n) ++ at_ (envOf w) (l.drop n)) (hpOf w) := by rw [at_, at_, ← List.map_append, List.take_append_drop]; exact h
  obtain ⟨h2, h3, ap, l1, l2, ha, hb⟩ := All.append_iff.1 h'
  have := All.append_iff.2 ⟨h2, h3, ap, l1, l2, ha.pick_ is _ hd.1 (pickAt_map _ _ _ h1), hb⟩
  rw [at_, ← List.map_append] at this
  exact this
theorem Sat.imp (h : Sat (A :: l) w) (hi : ∀ e k, A e k → B e k) : Sat (B :: l) w := All.imp h (hi _)
theorem erase_insert {α : Type} (B : α) : ∀ (l : List α) (i : Nat), i < l.length → (l.eraseIdx i).insertIdx i B = l.set i B
  | [], i, h => by simp at h
  | C :: l, 0, _ => rfl
  | C :: l, i + 1, h => by
    simp only [List.eraseIdx_cons_succ, List.insertIdx_succ_cons, List.set_cons_succ]; rw [erase_insert B l i (by simpa using h)]
theorem at_insert (e : Env) (A : Assn) : ∀ (l : List Assn) (i : Nat), (at_ e l).insertIdx i (A e) = at_ e (l.insertIdx i A)
  | l, 0 => rfl
  | [], i + 1 => rfl
  | B :: l, i + 1 => by
    have := at_insert e A l i
    simp only [at_, List.map_cons, List.insertIdx_succ_cons] at this ⊢
    rw [this]
theorem Sat.set_at (i : Nat) (hi : l[i]? = some A) (h : Sat l w) (hu : ∀ rest, Sat (A :: rest) w → Sat (B :: rest) w') : Sat (l.set i B) w' := by
  have hlt : i < l.length := by
    rcases Nat.lt_or_ge i l.length with h' | h'
    · exact h'
    · rw [List.getElem?_eq_none h'] at hi; cases hi
  have h1 : All (B (envOf w') :: at_ (envOf w') (l.eraseIdx i)) (hpOf w') := hu _ (h.pull i hi)
  have h2 := h1.push_ i (by simp [at_, List.length_eraseIdx_of_lt hlt]; omega)
  rw [at_insert, erase_insert B l i hlt] at h2
  exact h2
theorem Sat.unstar (h : Sat (star l :: m) w) : Sat (l ++ m) w := by
  have := (All.append_iff (l := at_ (envOf w) l) (m := at_ (envOf w) m)).2 h
  rw [at_, at_, ← List.map_append] at this
  exact this
theorem Sat.restar (h : Sat (l ++ m) w) : Sat (star l :: m) w := by
  have h : All (at_ (envOf w) (l ++ m)) (hpOf w) := h
  rw [at_, List.map_append] at h
  exact All.append_iff.1 h
theorem Sat.of_heap (h : Sat l w) (e : w'.heap = w.heap) (he : envOf w' = envOf w) : Sat l w' := by
  unfold Sat hpOf at *; rwa [e, he]
theorem Sat.drew (h : Sat l w) : Sat l w.drew := h
theorem Sat.ext (h : Sat l w) (e : ∀ (i : Nat) (o : Obj), w.heap[i]? = some o → w'.heap[i]? = some o) (he : envOf w' = envOf w) : Sat l w' := by
  unfold Sat; rw [he]; exact All.mono h e
theorem Sat.alone (h : Sat (A :: l) w) : Sat [A] w := All.head h
theorem Sat.alone_at (i : Nat) (hi : l[i]? = some A) (h : Sat l w) : Sat [A] w := (h.pull i hi).alone
theorem Sat.change (h : Sat (A :: l) w) (he : envOf w' = envOf w)
    (hc : ∀ h1, A (envOf w) h1 → Hp.le h1 (hpOf w) → ∃ h1', B (envOf w) h1' ∧ Hp.le h1' (hpOf w') ∧ (∀ i o, h1' i = some o → i < w.heap.size → (h1 i).isSome = true) ∧
      ∀ i, h1 i = none → i < w.heap.size → w'.heap[i]? = w.heap[i]?) : Sat (B :: l) w' := by
  obtain ⟨h1, h2, ap, l1, l2, hA, hl⟩ := h
  obtain ⟨h1', hB, l1', hdom, hsame⟩ := hc h1 hA l1
  unfold Sat
  rw [he]
  have hlt : ∀ i o, h2 i = some o → i < w.heap.size ∧ h1 i = none := fun i o e => by
    refine ⟨?_, ?_⟩
    · have : w.heap[i]? = some o := l2 i o e
      exact (Array.getElem?_eq_some_iff.1 this).1
    · rcases ap i with e' | e'
      · exact e'
      · rw [e] at e'; cases e'
  refine ⟨h1', h2, fun i => ?_, l1', fun i o e => ?_, hB, hl⟩
  · cases e : h2 i with
    | none => exact .inr rfl
    | some o =>
      left
      obtain ⟨hi, h1n⟩ := hlt i o e
      cases e' : h1' i with
      | none => rfl
      | some o' =>
        have := hdom i o' e' hi
        rw [h1n] at this; cases this
  · obtain ⟨hi, h1n⟩ := hlt i o e
    show w'.heap[i]? = some o
    rw [hsame i h1n hi]
    exact l2 i o e
theorem Sat.fresh (h : Sat l w) (he : envOf w' = envOf w) (hsame : ∀ i, i < w.heap.size → w'.heap[i]? = w.heap[i]?) (k : Hp) (hB : B (envOf w) k) (hk : Hp.le k (hpOf w')) (hnew : ∀ i o, k i = some o → w.heap.size ≤ i) : Sat (B :: l) w' := by
  unfold Sat
  rw [he]
  refine ⟨k, hpOf w, fun i => ?_, hk, fun i o e => ?_, hB, h⟩
  · cases e : k i with
    | none => exact .inl rfl
    | some o => right; exact Array.getElem?_eq_none (hnew i o e)
  · show w'.heap[i]? = some o
    have : w.heap[i]? = some o := e
    rw [hsame i (Array.getElem?_eq_some_iff.1 this).1]
    exact e
end

def reps (n : Nat) (v : Value) : List Value := List.replicate n v
@[simp] theorem reps_length (n : Nat) (v : Value) : (reps n v).length = n := by simp [reps]
def many (n : Nat) (c : UInt8) : List UInt8 := List.replicate n c
@[simp] theorem many_length (n : Nat) (c : UInt8) : (many n c).length = n := by simp [many]

def free (n : Nat) (f : Nat × Nat) : Prop := ∀ i, i < n → ¬ (f.1 ≤ i ∧ i < f.2)
def blk (b : Nat) (l : List Value) (t : TypeId) : Assn := fun _ h => ∃ f, h b = some (.cells l.toArray t f) ∧ free l.length f
def obj (b : Nat) (o : Obj) : Assn := fun _ h => h b = some o
def old (W : World) : Assn := fun e h => e = envOf W ∧ ∀ i, i < W.heap.size → h i = W.heap[i]?
def fact (p : Prop) : Assn := fun _ _ => p
def ex {α : Type} (A : α → Assn) : Assn := fun e h => ∃ x, A x e h

section
variable {w w' : World} {l : List Assn} {b : Nat} {cs : List Value} {t : TypeId}
theorem Sat.fact_iff {p : Prop} : Sat (fact p :: l) w ↔ p ∧ Sat l w :=
  ⟨fun h => ⟨by obtain ⟨_, _, _, _, _, hp, _⟩ := h; exact hp, h.tail⟩, fun h => ⟨fun _ => none, hpOf w, fun _ => .inl rfl, fun _ _ e => (by cases e), Hp.le_refl _, h.1, h.2⟩⟩
theorem Sat.ex_iff {α : Type} {A : α → Assn} : Sat (ex A :: l) w ↔ ∃ x, Sat (A x :: l) w :=
  ⟨fun ⟨h1, h2, a, b, c, ⟨x, hx⟩, d⟩ => ⟨x, h1, h2, a, b, c, hx, d⟩, fun ⟨x, h1, h2, a, b, c, hx, d⟩ => ⟨h1, h2, a, b, c, ⟨x, hx⟩, d⟩⟩
theorem Sat.old_self (w : World) : Sat [old w] w := ⟨hpOf w, fun _ => none, fun _ => .inr rfl, Hp.le_refl _, fun _ _ e => (by cases e), ⟨rfl, fun _ _ => rfl⟩, trivial⟩
theorem Sat.old_same {W : World} (h : Sat (old W :: l) w) : ∀ i, i < W.heap.size → w.heap[i]? = W.heap[i]? := by
  obtain ⟨h1, _, _, l1, _, ⟨_, ho⟩, _⟩ := h
  intro i hi
  have he : W.heap[i]? = some W.heap[i] := Array.getElem?_eq_getElem hi
  rw [he]
  exact l1 i _ ((ho i hi).trans he)
theorem Sat.old_env {W : World} (h : Sat (old W :: l) w) : envOf w = envOf W := by
  obtain ⟨h1, _, _, l1, _, ⟨e, _⟩, _⟩ := h
  exact e
theorem Sat.obj_heap {o : Obj} (h : Sat (obj b o :: l) w) : w.heap[b]? = some o := by
  obtain ⟨h1, _, _, l1, _, ho, _⟩ := h
  exact l1 b o ho
theorem Sat.blk_heap (h : Sat (blk b cs t :: l) w) : ∃ f, w.heap[b]? = some (.cells cs.toArray t f) ∧ free cs.length f := by
  obtain ⟨h1, _, _, l1, _, ⟨f, ho, hf⟩, _⟩ := h
  exact ⟨f, l1 b _ ho, hf⟩
theorem Sat.blk_cell (h : Sat (blk b cs t :: l) w) (i : Nat) : w.cell? ⟨b, i, none⟩ = cs[i]? := by
  obtain ⟨f, hb, _⟩ := h.blk_heap
  simp [World.cell?, hb]
theorem Sat.blk_frozen (h : Sat (blk b cs t :: l) w) (i : Nat) (hi : i < cs.length) : w.frozen? ⟨b, i, none⟩ = false := by
  obtain ⟨f, hb, hf⟩ := h.blk_heap
  obtain ⟨lo, hi'⟩ := f
  have := hf i hi
  simp only [World.frozen?, hb]
  simp only [Bool.and_eq_false_iff, decide_eq_false_iff_not]
  simp only [not_and] at this
  by_cases h1 : lo ≤ i
  · exact .inr (this h1)
  · exact .inl h1
theorem Sat.put_at {o' : Obj} {A B : Assn} (h : Sat (A :: l) w) (hA : ∀ e k, A e k → (k b).isSome = true) (hlt : b < w.heap.size) (he : w'.heap = w.heap.setIfInBounds b o') (hw : envOf w' = envOf w) (hB : ∀ e (k : Hp), k b = some o' → B e k) : Sat (B :: l) w' := by
  refine h.change hw fun h1 h1A h1l => ⟨fun i => if i = b then some o' else none, hB _ _ (by simp), fun i o e => ?_, fun i o e hi => ?_, fun i e hi => ?_⟩
  · by_cases hib : i = b
    · subst hib
      simp at e; subst e
      show w'.heap[i]? = some o'
      rw [he]; simp [hlt]
    · simp [hib] at e
  · by_cases hib : i = b
    · subst hib; exact hA _ h1 h1A
    · simp [hib] at e
  · have hib : b ≠ i := by
      rintro rfl
      have := hA _ h1 h1A
      rw [e] at this; cases this
    rw [he, Array.getElem?_setIfInBounds_ne hib]
theorem heap_setCell_eq (w : World) (b i : Nat) (v : Value) {cs : Array Value} {f : Nat × Nat} (hb : w.heap[b]? = some (.cells cs t f)) :
    (w.setCell ⟨b, i, none⟩ v).heap = w.heap.setIfInBounds b (.cells (cs.setIfInBounds i v) t f) := by
  have hlt := (Array.getElem?_eq_some_iff.1 hb).1
  have he := (Array.getElem?_eq_some_iff.1 hb).2
  apply Array.ext_getElem?
  intro j
  show (w.heap.modify b _)[j]? = _
  by_cases hj : b = j
  · subst hj
    rw [Array.getElem?_eq_getElem (by rw [Array.size_modify]; exact hlt), Array.getElem_modify_self, he, Array.getElem?_setIfInBounds_self_of_lt hlt]
    rfl
  · rw [Array.getElem?_modify, if_neg hj, Array.getElem?_setIfInBounds_ne hj]
theorem Sat.setCell (h : Sat (blk b cs t :: l) w) (i : Nat) (v : Value) : Sat (blk b (cs.set i v) t :: l) (w.setCell ⟨b, i, none⟩ v) := by
  obtain ⟨f, hb, hf⟩ := h.blk_heap
  refine h.put_at (b := b) (fun _ k ⟨f, hk, _⟩ => by rw [hk]; rfl) (Array.getElem?_eq_some_iff.1 hb).1 (heap_setCell_eq w b i v hb) rfl fun _ k hk => ⟨f, ?_, ?_⟩
  · rw [hk]; simp
  · simpa using hf
theorem Sat.alloc (h : Sat l w) (cs : List Value) (t : TypeId) : Sat (blk w.heap.size cs t :: l) (w.alloc (.cells cs.toArray t)) := by
  refine h.fresh rfl (fun i hi => heap_alloc_old w _ i hi) (fun i => if i = w.heap.size then some (.cells cs.toArray t (0, 0)) else none) ⟨(0, 0), by simp, fun i _ hh => by omega⟩ (fun i o e => ?_) (fun i o e => ?_)
  · by_cases hi : i = w.heap.size
    · subst hi; simp at e; subst e; exact heap_alloc_new w _
    · simp [hi] at e
  · by_cases hi : i = w.heap.size
    · omega
    · simp [hi] at e
theorem Sat.allocObj (h : Sat l w) (o : Obj) : Sat (obj w.heap.size o :: l) (w.alloc o) := by
  refine h.fresh rfl (fun i hi => heap_alloc_old w _ i hi) (fun i => if i = w.heap.size then some o else none) (by simp [obj]) (fun i o' e => ?_) (fun i o' e => ?_)
  · by_cases hi : i = w.heap.size
    · subst hi; simp at e; subst e; exact heap_alloc_new w _
    · simp [hi] at e
  · by_cases hi : i = w.heap.size
    · omega
    · simp [hi] at e
theorem Sat.putObj {o o' : Obj} (h : Sat (obj b o :: l) w) : Sat (obj b o' :: l) { w with heap := w.heap.setIfInBounds b o' } :=
  h.put_at (b := b) (fun _ k hk => by rw [show k b = some o from hk]; rfl) (Array.getElem?_eq_some_iff.1 h.obj_heap).1 rfl rfl fun _ _ hk => hk
end
end Go.Sl

set_option linter.unusedVariables false
set_option linter.unusedSimpArgs false
namespace Go.Tr

abbrev Bs := List UInt8
def ltB : Bs → Bs → Bool
  | _, [] => false
  | [], _ :: _ => true
  | a :: s, b :: t => if a.toNat < b.toNat then true else if b.toNat < a.toNat then false else ltB s t
theorem ltB_irrefl : ∀ a : Bs, ltB a a = false
  | [] => rfl
  | a :: s => by simp [ltB, ltB_irrefl s]
theorem ltB_trans : ∀ {a b c : Bs}, ltB a b = true → ltB b c = true → ltB a c = true
  | _, [], _, h, _ => by cases ‹Bs› <;> simp [ltB] at h
  | _, _ :: _, [], _, h => by simp [ltB] at h
  | [], _ :: _, _ :: _, _, _ => rfl
  | a :: s, b :: t, c :: u, h1, h2 => by
    simp only [ltB] at h1 h2 ⊢
    split at h1
    · split at h2
      · rw [if_pos (by omega)]
      · split at h2
        · cases h2
        · rw [if_pos (by omega)]
    · split at h1
      · cases h1
      · split at h2
        · rw [if_pos (by omega)]
        · split at h2
          · cases h2
          · rw [if_neg (by omega), if_neg (by omega)]; exact ltB_trans h1 h2
theorem ltB_total : ∀ a b : Bs, ltB a b = true ∨ a = b ∨ ltB b a = true
  | [], [] => .inr (.inl rfl)
  | [], _ :: _ => .inl rfl
  | _ :: _, [] => .inr (.inr rfl)
  | a :: s, b :: t => by
    simp only [ltB]
    rcases Nat.lt_trichotomy a.toNat b.toNat with h | h | h
    · left; rw [if_pos h]
    · rw [if_neg (by omega), if_neg (by omega), if_neg (by omega), if_neg (by omega)]
      have : a = b := UInt8.toNat_inj.1 h
      subst this
      rcases ltB_total s t with h' | h' | h'
      · exact .inl h'
      · exact .inr (.inl (by rw [h']))
      · exact .inr (.inr h')
    · right; right; rw [if_pos h]
theorem ltB_asymm {a b : Bs} (h : ltB a b = true) : ltB b a = false := by
  cases h' : ltB b a with
  | false => rfl
  | true => have := ltB_trans h h'; rw [ltB_irrefl] at this; cases this
theorem ltB_ne {a b : Bs} (h : ltB a b = true) : a ≠ b := by rintro rfl; rw [ltB_irrefl] at h; cases h
theorem not_ltB {a b : Bs} (h : ltB a b = false) (hn : a ≠ b) : ltB b a = true := by
  rcases ltB_total a b with h' | h' | h'
  · rw [h] at h'; cases h'
  · exact absurd h' hn
  · exact h'

structure Nd where
  leaf : Bool
  keys : List Bs
  vals : List Bs
  kids : List Nat
def Nd.cell (n : Nd) (i : Nat) : Nat := if n.leaf then 2 + (n.keys.getD i []).length + (n.vals.getD i []).length else 1 + (n.keys.getD i []).length
def Nd.size (n : Nd) : Nat := 2 + (if n.leaf then 0 else 2 * n.kids.length) + ((List.range n.keys.length).map n.cell).sum
def rising : List Bs → Prop
  | [] => True
  | [_] => True
  | a :: b :: l => ltB a b = true ∧ rising (b :: l)
instance : (l : List Bs) → Decidable (rising l)
  | [] => .isTrue trivial
  | [_] => .isTrue trivial
  | a :: b :: l => by
    have : Decidable (rising (b :: l)) := instDecidableRising (b :: l)
    unfold rising; exact inferInstance
def Nd.sound (n : Nd) : Prop := (∀ k ∈ n.keys, 1 ≤ k.length ∧ k.length ≤ 64) ∧ rising n.keys ∧
  (if n.leaf then n.vals.length = n.keys.length ∧ n.kids = [] ∧ ∀ v ∈ n.vals, v.length ≤ 16 else n.vals = [] ∧ n.kids.length = n.keys.length + 1 ∧ ∀ k ∈ n.kids, k < 8192)
instance (n : Nd) : Decidable n.sound := by unfold Nd.sound; exact inferInstance
def Nd.right (n : Nd) : Prop := n.sound ∧ n.size ≤ 256
instance (n : Nd) : Decidable n.right := by unfold Nd.right; exact inferInstance
def two (k : Nat) : Bs := [UInt8.ofNat (k / 256), UInt8.ofNat k]
def cells : Bool → List Bs → List Bs → List Nat → Bs
  | true, k :: ks, v :: vs, c => UInt8.ofNat k.length :: (k ++ (UInt8.ofNat v.length :: (v ++ cells true ks vs c)))
  | false, k :: ks, v, c :: cs => UInt8.ofNat k.length :: (k ++ (two c ++ cells false ks v cs))
  | _, _, _, _ => []
def pad (b : Bs) : Bs := b ++ List.replicate (256 - b.length) 0
def Nd.body (n : Nd) : Bs := if n.leaf then 1 :: UInt8.ofNat n.keys.length :: cells true n.keys n.vals [] else 2 :: UInt8.ofNat n.keys.length :: (two (n.kids.headD 0) ++ cells false n.keys [] n.kids.tail)
def Nd.page (n : Nd) : Bs := pad n.body
def takeB (n : Nat) (b : Bs) : Option (Bs × Bs) := if b.length < n then none else some (b.take n, b.drop n)
def pieceB (b : Bs) : Option (Bs × Bs) := match takeB 1 b with
  | some ([c], b) => takeB c.toNat b
  | _ => none
def kidB (b : Bs) : Option (Nat × Bs) := match takeB 2 b with
  | some ([c, d], b) => some (c.toNat * 256 + d.toNat, b)
  | _ => none
def parseL : Nat → List Bs → List Bs → Bs → Option (List Bs × List Bs)
  | 0, ks, vs, _ => some (ks, vs)
  | m + 1, ks, vs, b => match pieceB b with
    | none => none
    | some (k, b) => match pieceB b with
      | none => none
      | some (v, b) => parseL m (ks ++ [k]) (vs ++ [v]) b
def parseI : Nat → List Bs → List Nat → Bs → Option (List Bs × List Nat)
  | 0, ks, cs, _ => some (ks, cs)
  | m + 1, ks, cs, b => match pieceB b with
    | none => none
    | some (k, b) => match kidB b with
      | none => none
      | some (c, b) => parseI m (ks ++ [k]) (cs ++ [c]) b
def parseN (b : Bs) : Option Nd :=
  if b.getD 0 0 = 1 then match parseL (b.getD 1 0).toNat [] [] (b.drop 2) with
    | some (ks, vs) => some ⟨true, ks, vs, []⟩
    | none => none
  else match kidB (b.drop 2) with
    | none => none
    | some (c, l) => match parseI (b.getD 1 0).toNat [] [c] l with
      | some (ks, cs) => some ⟨false, ks, [], cs⟩
      | none => none
def readN (b : Bs) : Option Nd := if b.length = 256 then match parseN b with
    | some n => if n.right ∧ n.page = b then some n else none
    | none => none
  else none
def below (ks : List Bs) (key : Bs) : Nat := (ks.takeWhile fun k => ltB k key).length
def Nd.find (n : Nd) (key : Bs) : Nat × Bool :=
  let i := below n.keys key
  let is : Bool := decide (n.keys[i]? = some key)
  if n.leaf then (i, is) else (i + ((n.keys.drop i).takeWhile fun k => decide (k = key)).length, false)
def Nd.weight (n : Nd) (i : Nat) : Nat := if n.leaf then n.cell i else n.cell i + 2
def cutAt (w : Nat → Nat) (k all : Nat) : Nat → Nat → Nat → Nat
  | 0, at', _ => at'
  | f + 1, at', part => if at' < k - 1 ∧ 2 * part < all then cutAt w k all f (at' + 1) (part + w at') else at'
def Nd.cut (n : Nd) : Nat := cutAt n.weight n.keys.length ((List.range n.keys.length).map n.weight).sum n.keys.length 0 0
def Nd.split (n : Nd) : Option (Nd × Nd × Bs) :=
  if ¬ n.sound ∨ n.keys.length < (if n.leaf then 2 else 3) then none
  else if n.leaf then some (⟨true, n.keys.take n.cut, n.vals.take n.cut, []⟩, ⟨true, n.keys.drop n.cut, n.vals.drop n.cut, []⟩, n.keys.getD n.cut [])
  else
    let a := max 2 n.cut
    some (⟨false, n.keys.take (a - 1), [], n.kids.take a⟩, ⟨false, n.keys.drop a, [], n.kids.drop a⟩, n.keys.getD (a - 1) [])
def Nd.join (l r : Nd) (key : Bs) : Nd :=
  if l.leaf then ⟨true, l.keys ++ r.keys, l.vals ++ r.vals, []⟩ else ⟨false, l.keys ++ [key] ++ r.keys, [], l.kids ++ r.kids⟩

structure En where
  sec : Nat → Bs
  down : Bool
  frm : Nat
structure St where
  kinds : List Nat
  by_ : Nat → Bs
inductive Res (α : Type) where
  | ok (a : α)
  | err (e : Int)
def M (α : Type) := St → Res α → St → Prop
def M.pure {α : Type} (a : α) : M α := fun s r s' => r = .ok a ∧ s' = s
def M.fail {α : Type} (e : Int) : M α := fun s r s' => r = .err e ∧ s' = s
def M.bind {α β : Type} (m : M α) (f : α → M β) : M β := fun s r s' => (∃ e, m s (.err e) s' ∧ r = .err e) ∨ ∃ a s1, m s (.ok a) s1 ∧ f a s1 r s'
def St.kind (E : En) (s : St) (k : Nat) : Option Nat := if k < E.frm then none else s.kinds[k - E.frm]?
def upd (f : Nat → Bs) (k : Nat) (b : Bs) : Nat → Bs := fun j => if j = k then b else f j
def zeros : Bs := List.replicate 256 0
section
variable (E : En)
def takeM : M Nat := fun s r s' => match s.kinds.findIdx? (· == 0) with
  | none => r = .err 190 ∧ s' = s
  | some i => r = .ok (E.frm + i) ∧ s' = ⟨s.kinds.set i 1, upd s.by_ (E.frm + i) zeros⟩
def putM (k : Nat) (b : Bs) : M Unit := fun s r s' =>
  if s.kind E k = some 1 then (if b.length = 256 then r = .ok () ∧ s' = ⟨s.kinds, upd s.by_ k b⟩ else r = .err 2 ∧ s' = s) else r = .err 240 ∧ s' = s
def getM (k : Nat) : M Bs := fun s r s' => s' = s ∧
  if s.kind E k = some 1 then r = .ok (s.by_ k) else if s.kind E k = some 2 then r = .ok (E.sec k) ∨ (E.down = true ∧ r = .err 150) else r = .err 240
def dropM (k : Nat) : M Unit := fun s r s' =>
  if s.kind E k = some 1 then r = .ok () ∧ s' = ⟨s.kinds.set (k - E.frm) 0, s.by_⟩
  else if s.kind E k = some 2 then r = .ok () ∧ s' = ⟨s.kinds.set (k - E.frm) 3, s.by_⟩
  else r = .err 240 ∧ s' = s
def dropsM : List Nat → M Unit
  | [] => M.pure ()
  | k :: l => (dropM E k).bind fun _ => dropsM l
def pagesOf (n : Nat) : Nat := max 1 ((n - 1) / 254 + 1)
def takenM : Nat → List Nat → M (List Nat)
  | 0, l => M.pure l
  | n + 1, l => fun s r s' => match s.kinds.findIdx? (· == 0) with
    | none => r = .err 190 ∧ ∃ r', dropsM E l s r' s'
    | some i => takenM n (l ++ [E.frm + i]) ⟨s.kinds.set i 1, upd s.by_ (E.frm + i) zeros⟩ r s'
def link (next : Nat) (b : Bs) : Bs := two next ++ (b.take 254 ++ List.replicate (254 - (b.take 254).length) 0)
def chainPuts : List Nat → Bs → M Unit
  | [], _ => M.pure ()
  | [k], b => putM E k (link 65535 b)
  | k :: k' :: l, b => (putM E k (link k' b)).bind fun _ => chainPuts (k' :: l) (b.drop 254)
def chainPut (b : Bs) : M Nat := if 16384 < b.length then M.fail 3 else (takenM E (pagesOf b.length) []).bind fun l => (chainPuts E l b).bind fun _ => M.pure (l.headD 0)
def chainGo (size : Nat) : Nat → Nat → List Nat → Bs → M (List Nat × Bs)
  | 0, _, l, out => M.pure (l, out)
  | m + 1, head, l, out => (getM E head).bind fun b =>
    let next := (b.getD 0 0).toNat * 256 + (b.getD 1 0).toNat
    let n := min 254 (size - out.length)
    if decide (next = 65535) ≠ decide (l.length + 1 = pagesOf size) then M.fail 200
    else if (b.drop (2 + n)).any (· != 0) then M.fail 200
    else chainGo size m next (l ++ [head]) (out ++ (b.drop 2).take n)
def chainRead (head size : Nat) : M (List Nat × Bs) := if 16384 < size then M.fail 2 else chainGo E size (pagesOf size) head [] []
def chainGet (head size : Nat) : M Bs := (chainRead E head size).bind fun x => M.pure x.2
def chainDrop (head size : Nat) : M Unit := (chainRead E head size).bind fun x => dropsM E x.1
def levelM (page : Nat) (low : Bool) : M Nd := (getM E page).bind fun b => match readN b with
  | none => M.fail 200
  | some n => if n.leaf = low then M.pure n else M.fail 200
def nodeM (page : Nat) : M Nd := (getM E page).bind fun b => match readN b with
  | none => M.fail 200
  | some n => M.pure n
def farB (cell : Bs) : Option (Nat × Nat) := match cell with
  | [a, b, c, d, e, f, g] => if a = 1 then some (b.toNat * 256 + c.toNat, ((d.toNat * 256 + e.toNat) * 256 + f.toNat) * 256 + g.toNat) else none
  | _ => none
def valueM (cell : Bs) : M Bs := if cell.getD 0 1 = 0 then M.pure cell.tail else match farB cell with
  | none => M.fail 200
  | some (h, n) => chainGet E h n
def cellM (value : Bs) : M Bs := if value.length ≤ 15 then M.pure (0 :: value) else (chainPut E value).bind fun h =>
  M.pure [1, UInt8.ofNat (h / 256), UInt8.ofNat h, UInt8.ofNat (value.length / 16777216), UInt8.ofNat (value.length / 65536), UInt8.ofNat (value.length / 256), UInt8.ofNat value.length]
def loseM (cell : Bs) : M Unit := if cell.getD 0 1 = 0 then M.pure () else match farB cell with
  | none => M.fail 200
  | some (h, n) => chainDrop E h n
structure Md where
  page : Nat
  other : Option Nat
  key : Bs
  size : Nat
def newM (b : Bs) (old : Option Nat) : M Nat := (takeM E).bind fun k => (match old with
  | some p => dropM E p
  | none => M.pure ()).bind fun _ => (putM E k b).bind fun _ => M.pure k
def putNM (page : Option Nat) (n : Nd) : M Nat := if ¬ n.right then M.fail 200 else match page with
  | none => newM E n.page none
  | some p => fun s r s' => if s.kind E p = some 1 then r = .ok p ∧ s' = ⟨s.kinds, upd s.by_ p n.page⟩ else newM E n.page (some p) s r s'
def saveM (page : Nat) (n : Nd) : M Md := if n.right then (putNM E (some page) n).bind fun k => M.pure ⟨k, none, [], n.size⟩ else match n.split with
  | none => M.fail 200
  | some (l, r, key) => (putNM E (some page) l).bind fun a => (putNM E none r).bind fun b => M.pure ⟨a, some b, key, 256⟩
def renewM (page : Nat) (n : Nd) (i : Nat) (m : Md) : M Md :=
  if n.kids.getD i 0 = m.page ∧ m.other = none then M.pure ⟨page, none, [], n.size⟩ else
    let kids := n.kids.set i m.page
    saveM E page (match m.other with
      | none => { n with kids := kids }
      | some o => { n with keys := n.keys.insertIdx i m.key, kids := kids.insertIdx (i + 1) o })
def insertM : Nat → Nat → Bs → Bs → M (Md × Bool)
  | 0, _, _, _ => M.fail 200
  | h + 1, page, key, cell => (levelM E page (h == 0)).bind fun n =>
    let x := n.find key
    if h = 0 then
      (if x.2 then loseM E (n.vals.getD x.1 []) else M.pure ()).bind fun _ =>
      (saveM E page (if x.2 then { n with vals := n.vals.set x.1 cell } else { n with keys := n.keys.insertIdx x.1 key, vals := n.vals.insertIdx x.1 cell })).bind fun m => M.pure (m, !x.2)
    else (insertM h (n.kids.getD x.1 0) key cell).bind fun y => (renewM E page n x.1 y.1).bind fun m => M.pure (m, y.2)
def mendM (page : Nat) (n : Nd) (i : Nat) : M Md :=
  let j := if i = n.keys.length then i - 1 else i
  (nodeM E (n.kids.getD j 0)).bind fun a => (nodeM E (n.kids.getD (j + 1) 0)).bind fun b =>
  if a.leaf ≠ b.leaf then M.fail 200 else
  (saveM E (n.kids.getD j 0) (a.join b (n.keys.getD j []))).bind fun m => (dropM E (n.kids.getD (j + 1) 0)).bind fun _ =>
  saveM E page (match m.other with
    | some o => { n with keys := n.keys.set j m.key, kids := (n.kids.set j m.page).set (j + 1) o }
    | none => { n with keys := n.keys.eraseIdx j, kids := (n.kids.set j m.page).eraseIdx (j + 1) })
def removeM : Nat → Nat → Bs → M (Md × Bool)
  | 0, _, _ => M.fail 200
  | h + 1, page, key => (levelM E page (h == 0)).bind fun n =>
    let x := n.find key
    if h = 0 then
      if x.2 then (loseM E (n.vals.getD x.1 [])).bind fun _ => (saveM E page { n with keys := n.keys.eraseIdx x.1, vals := n.vals.eraseIdx x.1 }).bind fun m => M.pure (m, true)
      else M.pure (⟨page, none, [], 256⟩, false)
    else (removeM h (n.kids.getD x.1 0) key).bind fun y =>
      if y.2 then
        if y.1.other = none ∧ y.1.size < 80 then (mendM E page { n with kids := n.kids.set x.1 y.1.page } x.1).bind fun m => M.pure (m, true)
        else (renewM E page n x.1 y.1).bind fun m => M.pure (m, true)
      else M.pure (⟨page, none, [], 256⟩, false)
structure T where
  root : Nat
  height : Nat
  count : Nat
def growM (t : T) (m : Md) : M T := match m.other with
  | none => M.pure { t with root := m.page }
  | some o => (putNM E none ⟨false, [m.key], [], [m.page, o]⟩).bind fun k => M.pure { t with root := k, height := t.height + 1 }
def putT (t : T) (key value : Bs) : M T := (cellM E value).bind fun cell =>
  if t.height = 0 then (putNM E none ⟨true, [key], [cell], []⟩).bind fun k => M.pure ⟨k, 1, 1⟩
  else (insertM E t.height t.root key cell).bind fun x => growM E { t with count := t.count + (if x.2 then 1 else 0) } x.1
def shrinkM (t : T) : M T := (nodeM E t.root).bind fun n => if 0 < n.keys.length then M.pure t else (dropM E t.root).bind fun _ => M.pure { t with root := if n.leaf then 0 else n.kids.getD 0 0, height := t.height - 1 }
def delT (t : T) (key : Bs) : M (T × Bool) := if t.height = 0 then M.pure (t, false) else (removeM E t.height t.root key).bind fun x =>
  if x.2 then (growM E { t with count := t.count - 1 } x.1).bind fun t => (shrinkM E t).bind fun t => M.pure (t, true)
  else M.pure (t, false)
def getT : Nat → Nat → Bs → M (Option Bs)
  | 0, _, _ => M.pure none
  | h + 1, page, key => (levelM E page (h == 0)).bind fun n =>
    let x := n.find key
    if h = 0 then if x.2 then (valueM E (n.vals.getD x.1 [])).bind fun v => M.pure (some v) else M.pure none
    else getT h (n.kids.getD x.1 0) key
end
end Go.Tr
