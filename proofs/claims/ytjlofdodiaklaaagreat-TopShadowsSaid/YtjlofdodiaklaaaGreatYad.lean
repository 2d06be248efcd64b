/-
  Pages as parts: what the calls on pages do to them | More operations that only reckon: comparisons with nil, conversions, cuts, lengths, parts | Chains and cells as parts
-/
import Derived.Test.YtjlofdodiaklaaaGreatYac
set_option linter.unusedVariables false
set_option linter.unusedSimpArgs false
namespace Go.Pa
open Go.Tr

def pg (k : Nat) (b : Bs) : PA := fun h => h k = some b
def fct (p : Prop) : PA := fun _ => p
def sx {α : Type} (A : α → PA) : PA := fun h => ∃ x, A x h
def sta (l : List PA) : PA := Al l
section
variable {l m : List PA} {A B : PA} {h h' : Ph} {k : Nat} {b b0 : Bs}
theorem Al.fct_iff {p : Prop} : Al (fct p :: l) h ↔ p ∧ Al l h :=
  ⟨fun a => ⟨by obtain ⟨_, _, _, _, _, hp, _⟩ := a; exact hp, a.tail⟩, fun a => ⟨fun _ => none, h, fun _ => .inl rfl, fun _ _ e => (by cases e), Ph.le_refl _, a.1, a.2⟩⟩
theorem Al.sx_iff {α : Type} {A : α → PA} : Al (sx A :: l) h ↔ ∃ x, Al (A x :: l) h :=
  ⟨fun ⟨h1, h2, a, b, c, ⟨x, hx⟩, d⟩ => ⟨x, h1, h2, a, b, c, hx, d⟩, fun ⟨x, h1, h2, a, b, c, hx, d⟩ => ⟨h1, h2, a, b, c, ⟨x, hx⟩, d⟩⟩
theorem Al.sta_iff : Al (sta l :: m) h ↔ Al (l ++ m) h := (Al.append_iff (l := l) (m := m)).symm
theorem Al.pg_get (a : Al (pg k b :: l) h) : h k = some b := by
  obtain ⟨h1, h2, _, l1, _, hp, _⟩ := a
  exact l1 k b hp
theorem Al.pg_set (a : Al (pg k b0 :: l) h) (hs : ∀ j, j ≠ k → h' j = h j) (hk : h' k = some b) : Al (pg k b :: l) h' := by
  obtain ⟨h1, h2, ap, l1, l2, hp, hl⟩ := a
  have hp : h1 k = some b0 := hp
  have h2k : h2 k = none := by
    rcases ap k with e | e
    · rw [hp] at e; cases e
    · exact e
  refine ⟨fun j => if j = k then some b else none, h2, fun j => ?_, fun j o e => ?_, fun j o e => ?_, by simp [pg], hl⟩
  · by_cases hj : j = k
    · subst hj; exact .inr h2k
    · exact .inl (if_neg hj)
  · by_cases hj : j = k
    · subst hj; simp at e; subst e; exact hk
    · simp [hj] at e
  · by_cases hj : j = k
    · subst hj; rw [h2k] at e; cases e
    · rw [hs j hj]; exact l2 j o e
theorem Al.pg_drop (a : Al (pg k b0 :: l) h) (hs : ∀ j, j ≠ k → h' j = h j) : Al l h' := by
  obtain ⟨h1, h2, ap, l1, l2, hp, hl⟩ := a
  have hp : h1 k = some b0 := hp
  have h2k : h2 k = none := by
    rcases ap k with e | e
    · rw [hp] at e; cases e
    · exact e
  refine hl.mono fun j o e => ?_
  by_cases hj : j = k
  · subst hj; rw [h2k] at e; cases e
  · rw [hs j hj]; exact l2 j o e
theorem Al.pg_new (a : Al l h) (h0 : h k = none) (hs : ∀ j, j ≠ k → h' j = h j) (hk : h' k = some b) : Al (pg k b :: l) h' := by
  refine ⟨fun j => if j = k then some b else none, h, fun j => ?_, fun j o e => ?_, fun j o e => ?_, by simp [pg], a⟩
  · by_cases hj : j = k
    · subst hj; exact .inr h0
    · exact .inl (if_neg hj)
  · by_cases hj : j = k
    · subst hj; simp at e; subst e; exact hk
    · simp [hj] at e
  · by_cases hj : j = k
    · subst hj; rw [h0] at e; cases e
    · rw [hs j hj]; exact e
theorem Al.swap_app {l m : List PA} (a : Al (l ++ m) h) : Al (m ++ l) h := by
  obtain ⟨h1, h2, ap, l1, l2, ha, hb⟩ := Al.append_iff.1 a
  exact Al.append_iff.2 ⟨h2, h1, Ph.apart_symm ap, l2, l1, hb, ha⟩
theorem Al.app_imp {l m n : List PA} (a : Al (l ++ m) h) (hi : ∀ k, Al m k → Al n k) : Al (l ++ n) h := by
  obtain ⟨h1, h2, ap, l1, l2, ha, hb⟩ := Al.append_iff.1 a
  exact Al.append_iff.2 ⟨h1, h2, ap, l1, l2, ha, hi _ hb⟩
def dropO : Nat → List PA → Option (List PA)
  | 0, l => some l
  | _ + 1, [] => some []
  | n + 1, _ :: l => dropO n l
def pickD (l : List PA) (n : Nat) : List Nat → Option (List PA)
  | [] => dropO n l
  | i :: is => match l[i]?, pickD l n is with
    | some A, some r => some (A :: r)
    | _, _ => none
theorem dropO_eq : ∀ (n : Nat) (l : List PA), dropO n l = some (l.drop n)
  | 0, _ => rfl
  | _ + 1, [] => rfl
  | n + 1, _ :: l => dropO_eq n l
theorem pickD_eq (l : List PA) (n : Nat) : ∀ (is : List Nat) (r : List PA), (is.all fun i => Nat.blt i n) = true → pickD l n is = some r → ∃ r', pickAt (l.take n) is = some r' ∧ r = r' ++ l.drop n
  | [], r, _, h => ⟨[], rfl, by simp only [pickD, dropO_eq, Option.some.injEq] at h; simp [← h]⟩
  | i :: is, r, hb, h => by
    simp only [List.all_cons, Bool.and_eq_true, Nat.blt_eq] at hb
    simp only [pickD] at h
    split at h
    · rename_i A r2 h1 h2
      cases h
      obtain ⟨r', h3, rfl⟩ := pickD_eq l n is r2 hb.2 h2
      exact ⟨A :: r', by simp only [pickAt, List.getElem?_take, if_pos hb.1, h1, h3], rfl⟩
    · cases h
theorem Al.pickF (n : Nat) (is : List Nat) {r : List PA} (hd : (distinct is && is.all fun i => Nat.blt i n) = true) (hr : pickD l n is = some r) (a : Al l h) : Al r h := by
  simp only [Bool.and_eq_true] at hd
  obtain ⟨r', h1, rfl⟩ := pickD_eq l n is r hd.2 hr
  rw [← List.take_append_drop n l] at a
  obtain ⟨h2, h3, ap, l1, l2, ha, hb⟩ := Al.append_iff.1 a
  exact Al.append_iff.2 ⟨h2, h3, ap, l1, l2, ha.pick_ is _ hd.1 h1, hb⟩
end

section
variable {E : En} {KK : List Nat} {s s' : St} {k : Nat} {b b0 : Bs} {F : List PA} {α β : Type}
def rd (E : En) (s : St) : Ph := fun k => if s.kind E k = some 1 then some (s.by_ k) else if s.kind E k = some 2 then some (E.sec k) else none
def Kst (K L : List Nat) : Prop := L.length = K.length ∧ ∀ (i c : Nat), K[i]? = some c → ∃ c', L[i]? = some c' ∧ (c = 2 → c' = 2 ∨ c' = 3) ∧ (c = 3 → c' = 3) ∧ (c ≤ 1 → c' ≤ 1)
theorem Kst.refl (K : List Nat) : Kst K K := ⟨rfl, fun i c h => ⟨c, h, fun h => .inl h, fun h => h, fun h => h⟩⟩
theorem Kst.set {K L : List Nat} {i c1 c : Nat} (h : Kst K L) (hi : L[i]? = some c1) (hc : c1 ≤ 1 ∧ c ≤ 1 ∨ c1 = 2 ∧ c = 3) : Kst K (L.set i c) := by
  refine ⟨by rw [List.length_set]; exact h.1, fun j d hd => ?_⟩
  obtain ⟨d', h1, h2, h3, h4⟩ := h.2 j d hd
  rw [List.getElem?_set]
  by_cases hij : i = j
  · subst hij
    rw [hi] at h1
    cases h1
    rw [if_pos rfl, if_pos (List.getElem?_eq_some_iff.1 hi).1]
    exact ⟨c, rfl, fun e => by have := h2 e; omega, fun e => by have := h3 e; omega, fun e => by have := h4 e; omega⟩
  · rw [if_neg hij]
    exact ⟨d', h1, h2, h3, h4⟩
def PS (E : En) (KK : List Nat) (F : List PA) (s : St) : Prop := Al F (rd E s) ∧ E.frm + s.kinds.length ≤ 8192 ∧ Kst KK s.kinds
theorem PS.pickF {l r : List PA} (n : Nat) (is : List Nat) (hd : (distinct is && is.all fun i => Nat.blt i n) = true) (hr : pickD l n is = some r) (a : PS E KK l s) : PS E KK r s := ⟨a.1.pickF n is hd hr, a.2⟩
theorem PS.tail {A : PA} (a : PS E KK (A :: F) s) : PS E KK F s := ⟨a.1.tail, a.2⟩
theorem PS.imp {l m : List PA} (a : PS E KK l s) (h : ∀ k, Al l k → Al m k) : PS E KK m s := ⟨h _ a.1, a.2⟩
theorem PS.under {A : PA} {l m : List PA} (a : PS E KK (A :: l) s) (h : ∀ k, Al l k → Al m k) : PS E KK (A :: m) s := ⟨a.1.cons_imp h, a.2⟩
theorem PS.fct_iff {p : Prop} : PS E KK (fct p :: F) s ↔ p ∧ PS E KK F s := ⟨fun a => ⟨(Al.fct_iff.1 a.1).1, (Al.fct_iff.1 a.1).2, a.2⟩, fun a => ⟨Al.fct_iff.2 ⟨a.1, a.2.1⟩, a.2.2⟩⟩
theorem PS.sx_iff {A : α → PA} : PS E KK (sx A :: F) s ↔ ∃ x, PS E KK (A x :: F) s := ⟨fun a => by obtain ⟨x, h⟩ := Al.sx_iff.1 a.1; exact ⟨x, h, a.2⟩, fun ⟨x, a⟩ => ⟨Al.sx_iff.2 ⟨x, a.1⟩, a.2⟩⟩
theorem PS.sta_iff {l : List PA} : PS E KK (sta l :: F) s ↔ PS E KK (l ++ F) s := ⟨fun a => ⟨Al.sta_iff.1 a.1, a.2⟩, fun a => ⟨Al.sta_iff.2 a.1, a.2⟩⟩

def Ok (m : M α) (s : St) (Post : α → St → Prop) : Prop := ∀ a s', m s (.ok a) s' → Post a s'
theorem Ok.pure {a : α} {Post : α → St → Prop} (h : Post a s) : Ok (M.pure a) s Post := by
  rintro a' s' ⟨e, rfl⟩; cases e; exact h
theorem Ok.fail {e : Int} {Post : α → St → Prop} : Ok (M.fail e) s Post := by
  rintro a' s' ⟨h, _⟩; cases h
theorem Ok.bind {m : M α} {f : α → M β} {Post : β → St → Prop} (h : Ok m s fun a s1 => Ok (f a) s1 Post) : Ok (m.bind f) s Post := by
  rintro b s' (⟨e, _, h'⟩ | ⟨a, s1, h1, h2⟩)
  · cases h'
  · exact h a s1 h1 b s' h2
theorem Ok.mono {m : M α} {Post Post' : α → St → Prop} (h : Ok m s Post) (hp : ∀ a s', Post a s' → Post' a s') : Ok m s Post' := fun a s' h1 => hp a s' (h a s' h1)
theorem Ok.ite {p : Prop} [Decidable p] {m m' : M α} {Post : α → St → Prop} (h1 : p → Ok m s Post) (h2 : ¬ p → Ok m' s Post) : Ok (if p then m else m') s Post := by
  by_cases h : p
  · rw [if_pos h]; exact h1 h
  · rw [if_neg h]; exact h2 h
def Gets (E : En) (m : M α) (s : St) (a : α) : Prop := ∀ r s', m s r s' → s' = s ∧ (r = .ok a ∨ (E.down = true ∧ ∃ e, r = .err e))
theorem Gets.ok {m : M α} {a : α} (h : Gets E m s a) {Post : α → St → Prop} (hp : Post a s) : Ok m s Post := fun a' s' h' => by
  obtain ⟨rfl, e | ⟨_, e, he⟩⟩ := h _ _ h'
  · cases e; exact hp
  · cases he
theorem Gets.pure {a : α} : Gets E (M.pure a) s a := by
  rintro r s' ⟨rfl, rfl⟩; exact ⟨rfl, .inl rfl⟩
theorem Gets.bind {m : M α} {f : α → M β} {a : α} {b : β} (h : Gets E m s a) (h2 : Gets E (f a) s b) : Gets E (m.bind f) s b := by
  rintro r s' (⟨e, h', rfl⟩ | ⟨a', s1, h1, h3⟩)
  · obtain ⟨rfl, e' | ⟨hd, _⟩⟩ := h _ _ h'
    · cases e'
    · exact ⟨rfl, .inr ⟨hd, e, rfl⟩⟩
  · obtain ⟨rfl, e' | ⟨_, e, he⟩⟩ := h _ _ h1
    · cases e'; exact h2 r s' h3
    · cases he
theorem Gets.sure {m : M α} {a : α} (h : Gets E m s a) (hd : E.down = false) {r : Res α} {s' : St} (hm : m s r s') : r = .ok a ∧ s' = s := by
  obtain ⟨rfl, e | ⟨h1, _⟩⟩ := h _ _ hm
  · exact ⟨e, rfl⟩
  · rw [hd] at h1; cases h1

theorem rd_some (h : rd E s k = some b) : (s.kind E k = some 1 ∧ s.by_ k = b) ∨ (s.kind E k = some 2 ∧ E.sec k = b) := by
  unfold rd at h
  split at h
  · next h1 => exact .inl ⟨h1, Option.some.inj h⟩
  · split at h
    · next h2 => exact .inr ⟨h2, Option.some.inj h⟩
    · cases h
theorem kind_lt' {c : Nat} (h : s.kind E k = some c) : E.frm ≤ k ∧ k - E.frm < s.kinds.length := by
  unfold St.kind at h
  split at h
  · cases h
  · next hk => exact ⟨by omega, (List.getElem?_eq_some_iff.1 h).1⟩
theorem kind_set' {i c : Nat} {f : Nat → Bs} (hi : i < s.kinds.length) (k : Nat) : St.kind E ⟨s.kinds.set i c, f⟩ k = if k = E.frm + i then some c else s.kind E k := by
  unfold St.kind
  dsimp only []
  by_cases hk : k < E.frm
  · rw [if_pos hk, if_pos hk, if_neg (by omega)]
  · rw [if_neg hk, if_neg hk, List.getElem?_set]
    by_cases h2 : k = E.frm + i
    · rw [if_pos h2, if_pos (by omega), if_pos (by simpa using hi)]
    · rw [if_neg h2, if_neg (by omega)]
theorem PS.lt {F : List PA} (a : PS E KK (pg k b :: F) s) : k < 8192 := by
  obtain ⟨a1, a2, _⟩ := a
  have := a1.pg_get
  rcases rd_some this with ⟨h, _⟩ | ⟨h, _⟩ <;> (have := kind_lt' h; omega)
theorem get_gets (a : PS E KK (pg k b :: F) s) : Gets E (getM E k) s b := by
  rintro r s' ⟨rfl, h⟩
  have := a.1.pg_get
  unfold rd at this
  split at this
  · next h1 => rw [if_pos h1] at h; exact ⟨rfl, .inl (by rw [h, Option.some.inj this])⟩
  · next h1 =>
    split at this
    · next h2 =>
      rw [if_neg h1, if_pos h2] at h
      rcases h with h | ⟨hd, h⟩
      · exact ⟨rfl, .inl (by rw [h, Option.some.inj this])⟩
      · exact ⟨rfl, .inr ⟨hd, _, h⟩⟩
    · cases this
theorem find_first {l : List Nat} {i : Nat} (h : l.findIdx? (· == 0) = some i) : ∃ hi : i < l.length, l[i] = 0 := by
  rw [List.findIdx?_eq_some_iff_getElem] at h
  obtain ⟨h1, h2, _⟩ := h
  exact ⟨h1, by simpa using h2⟩
theorem rd_take {i : Nat} (hi : i < s.kinds.length) (h0 : s.kinds[i] = 0) (a : PS E KK F s) : PS E KK (pg (E.frm + i) zeros :: F) ⟨s.kinds.set i 1, upd s.by_ (E.frm + i) zeros⟩ := by
  have hk0 : s.kind E (E.frm + i) = some 0 := by
    unfold St.kind; rw [if_neg (by omega), Nat.add_sub_cancel_left, List.getElem?_eq_getElem hi, h0]
  refine ⟨a.1.pg_new (k := E.frm + i) ?_ (fun j hj => ?_) ?_, by simpa using a.2.1, a.2.2.set (List.getElem?_eq_getElem hi) (.inl ⟨by omega, by omega⟩)⟩
  · unfold rd; rw [hk0]; rfl
  · unfold rd; rw [kind_set' hi, if_neg hj]; dsimp only []; unfold upd; rw [if_neg hj]
  · unfold rd; rw [kind_set' hi, if_pos rfl, if_pos rfl]; dsimp only []; unfold upd; rw [if_pos rfl]
theorem take_ok (a : PS E KK F s) : Ok (takeM E) s fun k s' => PS E KK (pg k zeros :: F) s' := by
  intro k s' h
  unfold takeM at h
  cases hf : s.kinds.findIdx? (· == 0) with
  | none => rw [hf] at h; cases h.1
  | some i =>
    rw [hf] at h
    obtain ⟨hi, h0⟩ := find_first hf
    obtain ⟨e, rfl⟩ := h
    cases e
    exact rd_take hi h0 a
theorem rd_put (h1 : s.kind E k = some 1) (a : PS E KK (pg k b0 :: F) s) : PS E KK (pg k b :: F) ⟨s.kinds, upd s.by_ k b⟩ := by
  refine ⟨a.1.pg_set (fun j hj => ?_) ?_, a.2⟩
  · show rd E ⟨s.kinds, upd s.by_ k b⟩ j = _
    unfold rd
    show (if s.kind E j = some 1 then some (upd s.by_ k b j) else _) = _
    unfold upd; rw [if_neg hj]; rfl
  · show (if s.kind E k = some 1 then some (upd s.by_ k b k) else _) = _
    rw [if_pos h1]; unfold upd; rw [if_pos rfl]
theorem put_ok (a : PS E KK (pg k b0 :: F) s) : Ok (putM E k b) s fun _ s' => PS E KK (pg k b :: F) s' := by
  intro _ s' h
  unfold putM at h
  split at h
  · next h1 =>
    split at h
    · obtain ⟨_, rfl⟩ := h; exact rd_put h1 a
    · cases h.1
  · cases h.1
theorem drop_ok (a : PS E KK (pg k b0 :: F) s) : Ok (dropM E k) s fun _ s' => PS E KK F s' := by
  intro _ s' h
  have hk : ∀ c c1, s.kind E k = some c1 → c1 ≤ 1 ∧ c ≤ 1 ∨ c1 = 2 ∧ c = 3 → PS E KK F ⟨s.kinds.set (k - E.frm) c, s.by_⟩ := fun c c1 hk1 hcc => by
    have hlt : E.frm ≤ k ∧ k - E.frm < s.kinds.length := by
      rcases rd_some a.1.pg_get with ⟨h, _⟩ | ⟨h, _⟩ <;> exact kind_lt' h
    refine ⟨a.1.pg_drop fun j hj => ?_, by simpa using a.2.1, a.2.2.set (c1 := c1) (by unfold St.kind at hk1; rw [if_neg (by omega)] at hk1; exact hk1) hcc⟩
    have hne : ¬ j = E.frm + (k - E.frm) := by omega
    unfold rd
    rw [kind_set' hlt.2, if_neg hne]
  unfold dropM at h
  split at h
  · next h1 => obtain ⟨_, rfl⟩ := h; exact hk 0 1 h1 (.inl ⟨by omega, by omega⟩)
  · split at h
    · next h2 => obtain ⟨_, rfl⟩ := h; exact hk 3 2 h2 (.inr ⟨rfl, rfl⟩)
    · cases h.1
theorem drops_ok : ∀ {l : List (Nat × Bs)} {s : St}, PS E KK (l.map (fun x => pg x.1 x.2) ++ F) s → Ok (dropsM E (l.map (·.1))) s fun _ s' => PS E KK F s'
  | [], s, a => Ok.pure a
  | x :: l, s, a => Ok.bind ((drop_ok a).mono fun _ s' h => drops_ok h)
theorem new_ok (a : PS E KK F s) : Ok (newM E b none) s fun k s' => PS E KK (pg k b :: F) s' :=
  Ok.bind ((take_ok a).mono fun k s1 h1 => Ok.bind (Ok.pure (Ok.bind ((put_ok (b := b) h1).mono fun _ s2 h2 => Ok.pure h2))))
theorem new_ok' (a : PS E KK (pg k b0 :: F) s) : Ok (newM E b (some k)) s fun k' s' => PS E KK (pg k' b :: F) s' :=
  Ok.bind ((take_ok a).mono fun k' s1 h1 => Ok.bind ((drop_ok (h1.pickF 2 [1, 0] rfl rfl)).mono fun _ s2 h2 => Ok.bind ((put_ok (b := b) h2).mono fun _ s3 h3 => Ok.pure h3)))
theorem putN_ok {n : Nd} (a : PS E KK F s) : Ok (putNM E none n) s fun k s' => n.right ∧ PS E KK (pg k n.page :: F) s' :=
  Ok.ite (fun _ => Ok.fail) fun h => (new_ok a).mono fun _ _ h' => ⟨Classical.not_not.1 h, h'⟩
theorem putN_ok' {n : Nd} (a : PS E KK (pg k b0 :: F) s) : Ok (putNM E (some k) n) s fun k' s' => n.right ∧ PS E KK (pg k' n.page :: F) s' := by
  refine Ok.ite (fun _ => Ok.fail) fun h => ?_
  have hr := Classical.not_not.1 h
  intro k' s' h'
  dsimp only [] at h'
  split at h'
  · next h1 => obtain ⟨e, rfl⟩ := h'; cases e; exact ⟨hr, rd_put h1 a⟩
  · exact ⟨hr, new_ok' a _ _ h'⟩
end
end Go.Pa

namespace Go.Sl
open Go
section
variable {P : Program} {fr : Fr} {d : Option Tmp} {ty : TypeId} {pos : String} {aft : Array Edge} {g : Option (Nat × Bool)} {v u z vx vy : Value} {x y c i : Operand} {t s e : TypeId}

theorem run_equal_ptr_nil {e : TypeId} [h : TyU P t (.pointer e)] (p : Option Addr) (w : World) : (Op.equal t (.pointer p) (.pointer none)).run P w = .ok p.isNone w := by
  unfold Op.equal Op.maxDepth Op.equalIn
  rw [Sem.run_bind, TyU.run (t := t) w]
  cases p <;> simp
theorem br_ptr_nil {e : TypeId} [h : TyU P t (.pointer e)] {p : Option Addr} : Bin P .eql t (.pointer p) (.pointer none) (.bool p.isNone) := fun _ _ w => by
  simp [eqGuard, binOp, run_equal_ptr_nil (P := P) (t := t) p w]
theorem br_ptr_nnil {e : TypeId} [h : TyU P t (.pointer e)] {p : Option Addr} : Bin P .neq t (.pointer p) (.pointer none) (.bool (!p.isNone)) := fun _ _ w => by
  simp [eqGuard, binOp, run_equal_ptr_nil (P := P) (t := t) p w]
theorem br_some_nil {e : TypeId} [h : TyU P t (.pointer e)] {a : Addr} : Bin P .eql t (.pointer (some a)) (.pointer none) (.bool false) := br_ptr_nil
theorem br_none_nil {e : TypeId} [h : TyU P t (.pointer e)] : Bin P .eql t (.pointer none) (.pointer none) (.bool true) := br_ptr_nil
theorem br_some_nnil {e : TypeId} [h : TyU P t (.pointer e)] {a : Addr} : Bin P .neq t (.pointer (some a)) (.pointer none) (.bool true) := br_ptr_nnil
theorem br_none_nnil {e : TypeId} [h : TyU P t (.pointer e)] : Bin P .neq t (.pointer none) (.pointer none) (.bool false) := br_ptr_nnil
theorem run_equal_slice_nil {e : TypeId} [h : TyU P t (.slice e)] (p : Option Addr) (n c k m : Nat) (w : World) : (Op.equal t (.slice p n c) (.slice none k m)).run P w = .ok p.isNone w := by
  unfold Op.equal Op.maxDepth Op.equalIn
  rw [Sem.run_bind, TyU.run (t := t) w]
  cases p <;> simp
theorem br_slice_nil {e : TypeId} [h : TyU P t (.slice e)] {p : Option Addr} {n c k m : Nat} : Bin P .eql t (.slice p n c) (.slice none k m) (.bool p.isNone) := fun _ _ w => by
  simp [eqGuard, binOp, run_equal_slice_nil (P := P) (t := t) p n c k m w]
theorem run_equal_bool [h : TyU P t .bool] (p q : Bool) (w : World) : (Op.equal t (.bool p) (.bool q)).run P w = .ok (p == q) w := by
  unfold Op.equal Op.maxDepth Op.equalIn
  rw [Sem.run_bind, TyU.run (t := t) w]
  simp
theorem br_bool_ne [h : TyU P t .bool] {p q : Bool} : Bin P .neq t (.bool p) (.bool q) (.bool (decide (p ≠ q))) := fun _ _ w => by
  simp [eqGuard, binOp, run_equal_bool (P := P) (t := t) p q w]; cases p <;> cases q <;> rfl

theorem po_not {b : Bool} (hx : ev fr x = some (.bool b)) : Pure P ⟨d, .unOp .not t x, ty, pos, aft, g⟩ fr (.bool (!b)) := fun n ds a hf w => by simp [execOp, hf.ev hx, Op.unary]
theorem po_neg {k : IntKind} {m r : Int} (hx : ev fr x = some (.int k m)) (h : k.wrap (0 - m) = r) : Pure P ⟨d, .unOp .neg t x, ty, pos, aft, g⟩ fr (.int k r) := fun n ds a hf w => by subst h; simp [execOp, hf.ev hx, Op.unary, Op.intArith]

theorem po_conv_int {k k' : IntKind} {m r : Int} {src dst : TypeId} {sd : TypeDesc} [h1 : TyU P src sd] [h2 : TyU P dst (.int k)] (hx : ev fr x = some (.int k' m)) (h : k.wrap m = r) : Pure P ⟨d, .convert src dst x, ty, pos, aft, g⟩ fr (.int k r) := fun n ds a hf w => by
  subst h
  simp only [execOp, hf.ev hx, convert]
  simp [TyU.run (P := P) (t := src) w, TyU.run (P := P) (t := dst) w, Conv.intToInt]
theorem po_conv_str {src dst : TypeId} {sd : TypeDesc} {l : List UInt8} [h1 : TyU P src sd] [h2 : TyU P dst .string] (hx : ev fr x = some (str l)) : Pure P ⟨d, .convert src dst x, ty, pos, aft, g⟩ fr (str l) := fun n ds a hf w => by
  simp only [execOp, hf.ev hx, convert]
  simp [TyU.run (P := P) (t := src) w, TyU.run (P := P) (t := dst) w]

theorem po_len_str {l : List UInt8} [h1 : TyU P t .string] (hx : ev fr x = some (str l)) : Pure P ⟨d, .call { callee := .builtin .len, args := #[x], argTypes := #[t] }, ty, pos, aft, g⟩ fr (.int .i64 (l.length : Int)) := fun n ds a hf w => by
  have hs : (ByteArray.mk l.toArray).size = l.length := by simp [ByteArray.size]
  simp [execOp, resolve, invoke, builtin, Builtin.len_, hf.ev hx, TyU.run (P := P) (t := t) w, goInt, hs]
theorem po_len_slice {p : Option Addr} {k c : Nat} [h1 : TyU P t (.slice e)] (hx : ev fr x = some (.slice p k c)) : Pure P ⟨d, .call { callee := .builtin .len, args := #[x], argTypes := #[t] }, ty, pos, aft, g⟩ fr (.int .i64 (k : Int)) := fun n ds a hf w => by
  simp [execOp, resolve, invoke, builtin, Builtin.len_, hf.ev hx, TyU.run (P := P) (t := t) w, goInt]
theorem po_len_array {k : Nat} [h1 : TyU P t (.array k e)] (hx : ev fr x = some v) : Pure P ⟨d, .call { callee := .builtin .len, args := #[x], argTypes := #[t] }, ty, pos, aft, g⟩ fr (.int .i64 (k : Int)) := fun n ds a hf w => by
  simp [execOp, resolve, invoke, builtin, Builtin.len_, hf.ev hx, TyU.run (P := P) (t := t) w, goInt]
theorem po_cap_slice {p : Option Addr} {k c : Nat} [h1 : TyU P t (.slice e)] (hx : ev fr x = some (.slice p k c)) : Pure P ⟨d, .call { callee := .builtin .cap, args := #[x], argTypes := #[t] }, ty, pos, aft, g⟩ fr (.int .i64 (c : Int)) := fun n ds a hf w => by
  simp [execOp, resolve, invoke, builtin, Builtin.cap_, hf.ev hx, TyU.run (P := P) (t := t) w, goInt]
theorem po_min {k k' : IntKind} {m n : Int} (hx : ev fr x = some (.int k m)) (hy : ev fr y = some (.int k' n)) {ts : Array TypeId} : Pure P ⟨d, .call { callee := .builtin .min, args := #[x, y], argTypes := ts }, ty, pos, aft, g⟩ fr (.int k (min m n)) := fun n' ds a hf w => by
  simp [execOp, resolve, invoke, builtin, Builtin.min_, Builtin.min2, hf.ev hx, hf.ev hy]
  split <;> omega
theorem po_max {k k' : IntKind} {m n : Int} (hx : ev fr x = some (.int k m)) (hy : ev fr y = some (.int k' n)) {ts : Array TypeId} : Pure P ⟨d, .call { callee := .builtin .max, args := #[x, y], argTypes := ts }, ty, pos, aft, g⟩ fr (.int k (max m n)) := fun n' ds a hf w => by
  simp [execOp, resolve, invoke, builtin, Builtin.max_, Builtin.max2, hf.ev hx, hf.ev hy]
  split <;> omega

theorem po_index_str {l : List UInt8} {j : Nat} [h1 : TyU P t .string] {k : IntKind} (hx : ev fr x = some (str l)) (hi : ev fr i = some (.int k (j : Int))) (h : j < l.length) : Pure P ⟨d, .index t x i, ty, pos, aft, g⟩ fr (.int .u8 (byteAt l j)) := fun n ds a hf w => by
  simp only [execOp, hf.ev hx, hf.ev hi, Instr.index, asIntOf]
  have e : (ByteArray.mk l.toArray)[j]? = some (l[j]) := by
    rw [getElem?_pos _ _ (by simpa [ByteArray.size] using h)]
    rfl
  simp [TyU.run (P := P) (t := t) w, e, byteAt, h]
theorem po_index_arr {cs : List Value} {n : Nat} {agg : Bool} {size bytes : Nat} {zero : List Value} [h1 : TyU P t (.array n e)] [h2 : TyI P e agg size bytes zero] {k : IntKind} {j : Nat} (hx : ev fr x = some (.agg cs.toArray)) (hi : ev fr i = some (.int k (j : Int))) (h : j < n) (hl : j * size + size ≤ cs.length) :
    Pure P ⟨d, .index t x i, ty, pos, aft, g⟩ fr (valOf agg ((cs.drop (j * size)).take size)) := fun n' ds a hf w => by
  simp only [execOp, hf.ev hx, hf.ev hi, Instr.index, asIntOf]
  have h' : (j : Int) < (n : Int) := by omega
  simp [TyU.run (P := P) (t := t) w, h, TyI.run_size (P := P) (t := e) w, run_part (P := P) (t := e) cs (j * size) hl]

theorem run_bound {k : IntKind} {j y : Nat} (h : j ≤ y) (code : BoundsCode) (w : World) : (Instr.sliceBound (.int k (j : Int)) y code).run P w = .ok j w := by
  simp [Instr.sliceBound, asIntOf, h]
theorem po_slice_str {l : List UInt8} {k k' : IntKind} {a b : Nat} {lo hi : Operand} [h1 : TyU P t .string] (hx : ev fr x = some (str l)) (hl : ev fr lo = some (.int k (a : Int))) (hh : ev fr hi = some (.int k' (b : Int))) (h1 : a ≤ b) (h2 : b ≤ l.length) :
    Pure P ⟨d, .slice t x (some lo) (some hi) none, ty, pos, aft, g⟩ fr (str ((l.take b).drop a)) := fun n ds ac hf w => by
  have hs : (ByteArray.mk l.toArray).size = l.length := by simp [ByteArray.size]
  simp only [execOp, hf.ev hx, hf.ev hl, hf.ev hh, Instr.sliceAt, Option.map_some, Option.map_none, Instr.slice, Instr.sliceBounds, hs]
  simp [TyU.run (P := P) (t := t) w, hs, run_bound (P := P) h2, run_bound (P := P) h1]
  apply ByteArray.ext
  simp [ByteArray.extract, ByteArray.copySlice, List.extract, List.drop_take]
theorem po_slice_str_lo {l : List UInt8} {k : IntKind} {a : Nat} {lo : Operand} [h1 : TyU P t .string] (hx : ev fr x = some (str l)) (hl : ev fr lo = some (.int k (a : Int))) (h2 : a ≤ l.length) :
    Pure P ⟨d, .slice t x (some lo) none none, ty, pos, aft, g⟩ fr (str (l.drop a)) := fun n ds ac hf w => by
  have hs : (ByteArray.mk l.toArray).size = l.length := by simp [ByteArray.size]
  simp only [execOp, hf.ev hx, hf.ev hl, Instr.sliceAt, Option.map_some, Option.map_none, Instr.slice, Instr.sliceBounds, hs]
  simp [TyU.run (P := P) (t := t) w, hs, run_bound (P := P) h2]
  apply ByteArray.ext
  simp [ByteArray.extract, ByteArray.copySlice, List.extract, List.drop_take]
  rw [List.take_of_length_le (by simp)]
theorem po_slice_str_hi {l : List UInt8} {k : IntKind} {b : Nat} {hi : Operand} [h1 : TyU P t .string] (hx : ev fr x = some (str l)) (hh : ev fr hi = some (.int k (b : Int))) (h2 : b ≤ l.length) :
    Pure P ⟨d, .slice t x none (some hi) none, ty, pos, aft, g⟩ fr (str (l.take b)) := fun n ds ac hf w => by
  have hs : (ByteArray.mk l.toArray).size = l.length := by simp [ByteArray.size]
  simp only [execOp, hf.ev hx, hf.ev hh, Instr.sliceAt, Option.map_some, Option.map_none, Instr.slice, Instr.sliceBounds, hs]
  simp [TyU.run (P := P) (t := t) w, hs, run_bound (P := P) h2]
  apply ByteArray.ext
  simp [ByteArray.extract, ByteArray.copySlice, List.extract]
def cutAt (a : Option Addr) (l m size : Nat) : Option Addr := if m = l then a else a.map (·.add (l * size))
section
variable {p : Option Addr} {n c : Nat} {agg : Bool} {size bytes : Nat} {zero : List Value} {k k' k'' : IntKind} {a b m : Nat} {lo hi mx : Operand}
theorem po_slice [h1 : TyU P t (.slice e)] [h2 : TyI P e agg size bytes zero] (hx : ev fr x = some (.slice p n c)) (hl : ev fr lo = some (.int k (a : Int))) (hh : ev fr hi = some (.int k' (b : Int))) (ha : a ≤ b) (hb : b ≤ c) :
    Pure P ⟨d, .slice t x (some lo) (some hi) none, ty, pos, aft, g⟩ fr (.slice (cutAt p a c size) (b - a) (c - a)) := fun n ds ac hf w => by
  simp only [execOp, hf.ev hx, hf.ev hl, hf.ev hh, Instr.sliceAt, Option.map_some, Option.map_none, Instr.slice, Instr.sliceBounds]
  simp [TyU.run (P := P) (t := t) w, run_bound (P := P) hb, run_bound (P := P) ha, TyI.run_size (P := P) (t := e) w, cutAt]
theorem po_slice_lo [h1 : TyU P t (.slice e)] [h2 : TyI P e agg size bytes zero] (hx : ev fr x = some (.slice p n c)) (hl : ev fr lo = some (.int k (a : Int))) (ha : a ≤ n) :
    Pure P ⟨d, .slice t x (some lo) none none, ty, pos, aft, g⟩ fr (.slice (cutAt p a c size) (n - a) (c - a)) := fun n ds ac hf w => by
  simp only [execOp, hf.ev hx, hf.ev hl, Instr.sliceAt, Option.map_some, Option.map_none, Instr.slice, Instr.sliceBounds]
  simp [TyU.run (P := P) (t := t) w, run_bound (P := P) ha, TyI.run_size (P := P) (t := e) w, cutAt]
theorem po_slice_hi [h1 : TyU P t (.slice e)] [h2 : TyI P e agg size bytes zero] (hx : ev fr x = some (.slice p n c)) (hh : ev fr hi = some (.int k (b : Int))) (hb : b ≤ c) :
    Pure P ⟨d, .slice t x none (some hi) none, ty, pos, aft, g⟩ fr (.slice p b c) := fun n ds ac hf w => by
  simp only [execOp, hf.ev hx, hf.ev hh, Instr.sliceAt, Option.map_some, Option.map_none, Instr.slice, Instr.sliceBounds]
  simp [TyU.run (P := P) (t := t) w, run_bound (P := P) hb, TyI.run_size (P := P) (t := e) w]
  cases p with
  | none => simp
  | some q => simp [Addr.add]
theorem po_slice3 [h1 : TyU P t (.slice e)] [h2 : TyI P e agg size bytes zero] (hx : ev fr x = some (.slice p n c)) (hl : ev fr lo = some (.int k (a : Int))) (hh : ev fr hi = some (.int k' (b : Int))) (hm : ev fr mx = some (.int k'' (m : Int))) (ha : a ≤ b) (hb : b ≤ m) (hc : m ≤ c) :
    Pure P ⟨d, .slice t x (some lo) (some hi) (some mx), ty, pos, aft, g⟩ fr (.slice (cutAt p a m size) (b - a) (m - a)) := fun n ds ac hf w => by
  simp only [execOp, hf.ev hx, hf.ev hl, hf.ev hh, hf.ev hm, Instr.sliceAt, Option.map_some, Option.map_none, Instr.slice, Instr.sliceBounds]
  simp [TyU.run (P := P) (t := t) w, run_bound (P := P) hb, run_bound (P := P) ha, run_bound (P := P) hc, TyI.run_size (P := P) (t := e) w, cutAt]
theorem po_slice3_hi [h1 : TyU P t (.slice e)] [h2 : TyI P e agg size bytes zero] (hx : ev fr x = some (.slice p n c)) (hh : ev fr hi = some (.int k' (b : Int))) (hm : ev fr mx = some (.int k'' (m : Int))) (hb : b ≤ m) (hc : m ≤ c) :
    Pure P ⟨d, .slice t x none (some hi) (some mx), ty, pos, aft, g⟩ fr (.slice p b m) := fun n ds ac hf w => by
  simp only [execOp, hf.ev hx, hf.ev hh, hf.ev hm, Instr.sliceAt, Option.map_some, Option.map_none, Instr.slice, Instr.sliceBounds]
  simp [TyU.run (P := P) (t := t) w, run_bound (P := P) hb, run_bound (P := P) hc, TyI.run_size (P := P) (t := e) w]
  cases p with
  | none => simp
  | some q => simp [Addr.add]
theorem po_arrayAt {q o : Nat} [h1 : TyU P t (.array n e)] (hx : ev fr x = some (.slice (some ⟨q, o, none⟩) m c)) (h : n ≤ m) : Pure P ⟨d, .sliceToArrayPointer t x, ty, pos, aft, g⟩ fr (.pointer (some ⟨q, o, none⟩)) := fun n' ds ac hf w => by
  have h' : ¬ m < n := by omega
  simp only [execOp, hf.ev hx, Instr.arrayAt]
  simp [TyU.run (P := P) (t := t) w, h']
end
theorem po_makeFunc {fn : Fn} {first capt : Array Operand} {vf vc : List Value} (h1 : evs fr first.toList = some vf) (h2 : evs fr capt.toList = some vc) : Pure P ⟨d, .makeFunc fn first capt, ty, pos, aft, g⟩ fr (.func fn vf.toArray vc.toArray) := fun n ds a hf w => by
  have e1 : first.map a.eval = vf.toArray := by apply Array.ext'; simpa using hf.evs h1
  have e2 : capt.map a.eval = vc.toArray := by apply Array.ext'; simpa using hf.evs h2
  simp [execOp, Instr.makeFunc, e1, e2]
end
end Go.Sl

namespace Go.Pa
open Go.Tr

def chL : List Nat → Bs → List (Nat × Bs)
  | [], _ => []
  | [k], b => [(k, link 65535 b)]
  | k :: k' :: l, b => (k, link k' b) :: chL (k' :: l) (b.drop 254)
theorem chL_fst : ∀ (l : List Nat) (b : Bs), (chL l b).map (·.1) = l
  | [], _ => rfl
  | [k], b => rfl
  | k :: k' :: l, b => by
    show k :: (chL (k' :: l) (b.drop 254)).map (·.1) = _
    rw [chL_fst]
def pgs (l : List (Nat × Bs)) : List PA := l.map fun x => pg x.1 x.2
theorem Al.mid {A : PA} {l m : List PA} {h : Ph} : Al (l ++ A :: m) h ↔ Al (A :: (l ++ m)) h := by
  constructor
  · intro a
    have h1 : Al ((A :: m) ++ l) h := a.swap_app
    have h2 : Al (A :: (m ++ l)) h := h1
    exact h2.cons_imp fun k hk => hk.swap_app
  · intro a
    have h2 : Al (A :: (m ++ l)) h := a.cons_imp fun k hk => hk.swap_app
    have h1 : Al ((A :: m) ++ l) h := h2
    exact h1.swap_app
section
variable {E : En} {KK : List Nat} {s s' : St} {k : Nat} {b b0 : Bs} {F : List PA}
theorem PS.mid {A : PA} {l m : List PA} : PS E KK (l ++ A :: m) s ↔ PS E KK (A :: (l ++ m)) s := ⟨fun a => ⟨Al.mid.1 a.1, a.2⟩, fun a => ⟨Al.mid.2 a.1, a.2⟩⟩
theorem taken_ok : ∀ {n : Nat} {l0 : List Nat} {F : List PA} {s : St}, PS E KK F s → Ok (takenM E n l0) s fun l s' => ∃ l1, l = l0 ++ l1 ∧ l1.length = n ∧ PS E KK (pgs (l1.map fun k => (k, zeros)) ++ F) s'
  | 0, l0, F, s, a => Ok.pure ⟨[], by simp, rfl, a⟩
  | n + 1, l0, F, s, a => by
    intro l s' h
    unfold takenM at h
    cases hf : s.kinds.findIdx? (· == 0) with
    | none => rw [hf] at h; cases h.1
    | some i =>
      rw [hf] at h
      obtain ⟨hi, h0⟩ := find_first hf
      obtain ⟨l1, e, hl, h3⟩ := taken_ok (n := n) (rd_take hi h0 a) l s' h
      refine ⟨(E.frm + i) :: l1, by rw [e]; simp, by simp [hl], ?_⟩
      exact PS.mid.1 h3
theorem puts_ok : ∀ {l : List Nat} {b : Bs} {F : List PA} {s : St}, PS E KK (pgs (l.map fun k => (k, zeros)) ++ F) s → Ok (chainPuts E l b) s fun _ s' => PS E KK (pgs (chL l b) ++ F) s'
  | [], b, F, s, a => Ok.pure a
  | [k], b, F, s, a => put_ok (b := link 65535 b) (show PS E KK (pg k zeros :: F) s from a)
  | k :: k' :: l, b, F, s, a => Ok.bind ((put_ok (b := link k' b) (show PS E KK (pg k zeros :: _) s from a)).mono fun _ s1 h1 =>
      (puts_ok (l := k' :: l) (b := b.drop 254) (F := pg k (link k' b) :: F) (PS.mid.2 h1)).mono fun _ s2 h2 => PS.mid.1 h2)

theorem two_num {next : Nat} {r : Bs} (h : next < 65536) : ((two next ++ r).getD 0 0).toNat * 256 + ((two next ++ r).getD 1 0).toNat = next := by
  show (UInt8.ofNat (next / 256)).toNat * 256 + (UInt8.ofNat next).toNat = next
  rw [u8_ofNat (by omega), UInt8.toNat_ofNat']
  show next / 256 * 256 + next % 256 = next
  omega
theorem link_drop (next : Nat) (b : Bs) : (link next b).drop 2 = b.take 254 ++ List.replicate (254 - (b.take 254).length) 0 := rfl
theorem link_any (next : Nat) (b : Bs) {n : Nat} (h : n = (b.take 254).length) : ((link next b).drop (2 + n)).any (· != 0) = false := by
  subst h
  rw [← List.drop_drop, link_drop, List.drop_left]
  simp
theorem link_take (next : Nat) (b : Bs) {n : Nat} (h : n = (b.take 254).length) : ((link next b).drop 2).take n = b.take 254 := by
  subst h
  rw [link_drop, List.take_left]
theorem go_gets {size : Nat} : ∀ {l2 : List Nat} {head : Nat} {l : List Nat} {out b : Bs} {F : List PA}, PS E KK (pgs (chL l2 b) ++ F) s → (∀ k ∈ l2, k < 8192) → l2.head? = some head → out.length + b.length = size → l.length + l2.length = pagesOf size → b.length ≤ 254 * l2.length → 254 * l2.length ≤ b.length + 254 →
    Gets E (chainGo E size l2.length head l out) s (l ++ l2, out ++ b)
  | [], head, l, out, b, F, a, hk, hh, _, _, _, _ => by simp at hh
  | [k], head, l, out, b, F, a, hk, hh, h1, h2, h3, h4 => by
    obtain rfl : k = head := by simpa using hh
    refine Gets.bind (get_gets (show PS E KK (pg k (link 65535 b) :: F) s from a)) ?_
    have ht : b.take 254 = b := List.take_of_length_le (by simpa using h3)
    have hn : min 254 (size - out.length) = (b.take 254).length := by rw [ht]; simp at h3; omega
    have e1 : ((link 65535 b).getD 0 0).toNat * 256 + ((link 65535 b).getD 1 0).toNat = 65535 := two_num (by decide)
    dsimp only []
    rw [e1, if_neg (by
      have : l.length + 1 = pagesOf size := by simpa using h2
      simp [this]), link_any _ _ hn, if_neg (by decide), link_take _ _ hn, ht]
    exact Gets.pure
  | k :: k' :: l2, head, l, out, b, F, a, hk, hh, h1, h2, h3, h4 => by
    obtain rfl : k = head := by simpa using hh
    have a : PS E KK (pg k (link k' b) :: (pgs (chL (k' :: l2) (b.drop 254)) ++ F)) s := a
    refine Gets.bind (get_gets a) ?_
    have hb : 254 ≤ b.length := by simp only [List.length_cons] at h4; omega
    have hk' : k' < 8192 := hk k' (by simp)
    have hn : min 254 (size - out.length) = (b.take 254).length := by rw [List.length_take]; omega
    have e1 : ((link k' b).getD 0 0).toNat * 256 + ((link k' b).getD 1 0).toNat = k' := two_num (by omega)
    simp only [List.length_cons] at h2 h3 h4
    dsimp only []
    rw [e1, if_neg (by
      have g1 : ¬ k' = 65535 := by omega
      have g2 : ¬ l.length + 1 = pagesOf size := by omega
      simp [g1, g2]), link_any _ _ hn, if_neg (by decide), link_take _ _ hn]
    have := go_gets (size := size) (l2 := k' :: l2) (head := k') (l := l ++ [k]) (out := out ++ b.take 254) (b := b.drop 254) (F := pg k (link k' b) :: F) (PS.mid.2 a) (fun x hx => hk x (List.mem_cons_of_mem _ hx)) rfl
      (by rw [List.length_append, List.length_take, List.length_drop]; omega) (by simp; omega) (by rw [List.length_drop, List.length_cons]; omega) (by rw [List.length_drop, List.length_cons]; omega)
    rw [List.append_assoc, List.append_assoc, List.take_append_drop] at this
    exact this
theorem pages_fit (n : Nat) : n ≤ 254 * pagesOf n ∧ 254 * pagesOf n ≤ n + 254 ∧ 1 ≤ pagesOf n := by unfold pagesOf; omega
theorem read_gets {l : List Nat} {b : Bs} (a : PS E KK (pgs (chL l b) ++ F) s) (hk : ∀ k ∈ l, k < 8192) (hl : l.length = pagesOf b.length) (hb : b.length ≤ 16384) : Gets E (chainRead E (l.headD 0) b.length) s (l, b) := by
  have hp := pages_fit b.length
  unfold chainRead
  rw [if_neg (by omega), ← hl]
  cases l with
  | nil => simp at hl; omega
  | cons k l =>
    exact go_gets (l := []) (out := []) (b := b) (l2 := k :: l) a hk rfl (by simp) (by rw [List.length_nil, Nat.zero_add]; exact hl) (by rw [hl]; omega) (by rw [hl]; omega)

def farC (head n : Nat) : Bs := [1, UInt8.ofNat (head / 256), UInt8.ofNat head, UInt8.ofNat (n / 16777216), UInt8.ofNat (n / 65536), UInt8.ofNat (n / 256), UInt8.ofNat n]
theorem farB_farC {head n : Nat} (h1 : head < 65536) (h2 : n < 4294967296) : farB (farC head n) = some (head, n) := by
  unfold farB farC
  dsimp only []
  rw [if_pos rfl, u8_ofNat (show head / 256 < 256 by omega), u8_ofNat (show n / 16777216 < 256 by omega)]
  simp only [UInt8.toNat_ofNat']
  show some (head / 256 * 256 + head % 256, ((n / 16777216 * 256 + n / 65536 % 256) * 256 + n / 256 % 256) * 256 + n % 256) = _
  congr 2
  · omega
  · omega
structure Long (l : List Nat) (cell v : Bs) : Prop where
  big : 15 < v.length
  top : v.length ≤ 16384
  num : l.length = pagesOf v.length
  few : ∀ k ∈ l, k < 8192
  cell : cell = farC (l.headD 0) v.length
def cellA (cell v : Bs) : PA := sx fun l : List Nat => sta (fct ((l = [] ∧ cell = 0 :: v ∧ v.length ≤ 15) ∨ Long l cell v) :: pgs (chL l v))
theorem cellA_open (a : PS E KK (cellA b b0 :: F) s) : (b = 0 :: b0 ∧ b0.length ≤ 15) ∨ ∃ l, Long l b b0 ∧ PS E KK (pgs (chL l b0) ++ F) s := by
  obtain ⟨l, a⟩ := PS.sx_iff.1 a
  obtain ⟨h | h, a⟩ := PS.fct_iff.1 (PS.sta_iff.1 a)
  · exact .inl h.2
  · exact .inr ⟨l, h, a⟩
theorem cellA_short (h : b0.length ≤ 15) (a : PS E KK F s) : PS E KK (cellA (0 :: b0) b0 :: F) s :=
  PS.sx_iff.2 ⟨[], PS.sta_iff.2 (PS.fct_iff.2 ⟨.inl ⟨rfl, rfl, h⟩, a⟩)⟩
theorem cell_ok (a : PS E KK F s) : Ok (cellM E b) s fun cell s' => PS E KK (cellA cell b :: F) s' := by
  refine Ok.ite (fun h => Ok.pure (cellA_short h a)) fun h => Ok.bind ?_
  unfold chainPut
  refine Ok.ite (fun _ => Ok.fail) fun hb => Ok.bind ((taken_ok (l0 := []) a).mono ?_)
  rintro l1 s1 ⟨l2, e, hl, h1⟩
  rw [List.nil_append] at e
  subst e
  have hk : ∀ k ∈ l1, k < 8192 := fun k hk => by
    obtain ⟨A, C, rfl⟩ := List.append_of_mem hk
    unfold pgs at h1
    simp only [List.map_append, List.map_cons, List.append_assoc, List.cons_append] at h1
    exact (PS.mid.1 h1).lt
  refine Ok.bind ((puts_ok h1).mono fun _ s2 h2 => Ok.pure (Ok.pure ?_))
  exact PS.sx_iff.2 ⟨l1, PS.sta_iff.2 (PS.fct_iff.2 ⟨.inr ⟨by omega, by omega, hl, hk, rfl⟩, h2⟩)⟩
theorem head_few {l : List Nat} {n : Nat} (hl : l.length = pagesOf n) (hk : ∀ k ∈ l, k < 8192) : l.headD 0 < 65536 := by
  cases l with
  | nil => decide
  | cons k l => have := hk k (List.mem_cons_self ..); show k < _; omega
theorem value_gets (a : PS E KK (cellA b b0 :: F) s) : Gets E (valueM E b) s b0 := by
  rcases cellA_open a with ⟨rfl, h⟩ | ⟨l, h, a⟩
  · exact Gets.pure
  · unfold valueM
    rw [h.cell, if_neg (show ¬ ((farC (l.headD 0) b0.length).getD 0 1 = 0) from (by show ¬ ((1 : UInt8) = 0); decide)), farB_farC (head_few h.num h.few) (by have := h.top; omega)]
    exact Gets.bind (read_gets a h.few h.num h.top) Gets.pure
theorem lose_ok (a : PS E KK (cellA b b0 :: F) s) : Ok (loseM E b) s fun _ s' => PS E KK F s' := by
  have hF := a.tail
  rcases cellA_open a with ⟨rfl, h⟩ | ⟨l, h, a⟩
  · exact Ok.pure hF
  · unfold loseM
    rw [h.cell, if_neg (show ¬ ((farC (l.headD 0) b0.length).getD 0 1 = 0) from (by show ¬ ((1 : UInt8) = 0); decide)), farB_farC (head_few h.num h.few) (by have := h.top; omega)]
    refine Ok.bind ((read_gets a h.few h.num h.top).ok ?_)
    have := drops_ok (l := chL l b0) a
    rw [chL_fst] at this
    exact this
end
end Go.Pa
