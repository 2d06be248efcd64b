/-
  What stands in a node; a node cut in two; a node saved | Values put together, copies, conversions between bytes and texts
-/
import Derived.Test.YtjlofdodiaklaaaGreatYad
import Derived.Test.YtjlofdodiaklaaaGreatYae
import Derived.Laws.BytesString
set_option linter.unusedVariables false
set_option linter.unusedSimpArgs false
namespace Go.Pa
open Go.Tr

abbrev Pr := Bs × Bs
def wi (lo hi : Option Bs) (l : List Pr) : Prop := ∀ x ∈ l, (∀ k, lo = some k → ltB x.1 k = false) ∧ (∀ k, hi = some k → ltB x.1 k = true)
def leLo (a b : Option Bs) : Prop := ∀ x, a = some x → ∃ y, b = some y ∧ ltB y x = false
def leHi (a b : Option Bs) : Prop := ∀ y, b = some y → ∃ x, a = some x ∧ ltB y x = false
theorem leLo.refl (a : Option Bs) : leLo a a := fun x h => ⟨x, h, ltB_irrefl x⟩
theorem leHi.refl (a : Option Bs) : leHi a a := fun x h => ⟨x, h, ltB_irrefl x⟩
theorem leLo.none (a : Option Bs) : leLo none a := fun x h => by cases h
theorem leHi.none (a : Option Bs) : leHi a none := fun x h => by cases h
theorem ltB_le {a b c : Bs} (h : ltB a b = true) (h2 : ltB c b = false) : ltB a c = true := by
  rcases ltB_total b c with h' | h' | h'
  · exact ltB_trans h h'
  · subst h'; exact h
  · rw [h2] at h'; cases h'
theorem le_le {a b c : Bs} (h : ltB b a = false) (h2 : ltB c b = false) : ltB c a = false := by
  cases h3 : ltB c a with
  | false => rfl
  | true => have := ltB_le h3 h; rw [h2] at this; cases this
theorem wi.mono {lo hi lo' hi' : Option Bs} {l : List Pr} (h : wi lo hi l) (h1 : leLo lo' lo) (h2 : leHi hi hi') : wi lo' hi' l := fun x hx => by
  obtain ⟨g1, g2⟩ := h x hx
  refine ⟨fun k hk => ?_, fun k hk => ?_⟩
  · obtain ⟨y, hy, hl⟩ := h1 k hk
    exact le_le hl (g1 y hy)
  · obtain ⟨y, hy, hl⟩ := h2 k hk
    exact ltB_le (g2 y hy) hl
theorem wi.app {lo hi : Option Bs} {l m : List Pr} : wi lo hi (l ++ m) ↔ wi lo hi l ∧ wi lo hi m :=
  ⟨fun h => ⟨fun x hx => h x (List.mem_append_left _ hx), fun x hx => h x (List.mem_append_right _ hx)⟩, fun h x hx => by
    rcases List.mem_append.1 hx with h' | h'
    · exact h.1 x h'
    · exact h.2 x h'⟩
theorem wi.sub {lo hi : Option Bs} {l m : List Pr} (h : wi lo hi l) (hs : ∀ x ∈ m, x ∈ l) : wi lo hi m := fun x hx => h x (hs x hx)
def seps : List Bs → List (List Pr) → Option Bs → Option Bs → Prop
  | [], [l], lo, hi => wi lo hi l
  | k :: ks, l :: ls, lo, hi => wi lo (some k) l ∧ seps ks ls (some k) hi
  | _, _, _, _ => False
def pre : List Bs → List (List Pr) → Option Bs → Option Bs → Prop
  | [], [], lo, mid => mid = lo
  | k :: ks, l :: ls, lo, mid => wi lo (some k) l ∧ pre ks ls (some k) mid
  | _, _, _, _ => False
def suf : List Bs → List (List Pr) → Option Bs → Option Bs → Prop
  | [], [], mid, hi => mid = hi
  | k :: ks, l :: ls, mid, hi => mid = some k ∧ ∃ m, wi (some k) m l ∧ suf ks ls m hi
  | _, _, _, _ => False
theorem seps_len : ∀ {K : List Bs} {L : List (List Pr)} {lo hi : Option Bs}, seps K L lo hi → L.length = K.length + 1
  | [], [l], _, _, _ => rfl
  | [], [], _, _, h => h.elim
  | [], _ :: _ :: _, _, _, h => h.elim
  | _ :: _, [], _, _, h => h.elim
  | k :: K, l :: L, _, _, h => by simpa using seps_len h.2
theorem seps_suf : ∀ {K : List Bs} {x : List Pr} {L : List (List Pr)} {lo hi : Option Bs}, seps K (x :: L) lo hi ↔ ∃ m, wi lo m x ∧ suf K L m hi
  | [], x, [], lo, hi => ⟨fun h => ⟨hi, h, rfl⟩, fun ⟨m, h, e⟩ => by cases e; exact h⟩
  | [], x, y :: L, lo, hi => ⟨fun h => h.elim, fun ⟨_, _, h⟩ => h.elim⟩
  | k :: K, x, [], lo, hi => ⟨fun h => by have := seps_len h.2; simp at this, fun ⟨_, _, h⟩ => h.elim⟩
  | k :: K, x, y :: L, lo, hi => by
    constructor
    · rintro ⟨h1, h2⟩
      obtain ⟨m, h3, h4⟩ := seps_suf.1 h2
      exact ⟨some k, h1, rfl, m, h3, h4⟩
    · rintro ⟨_, h1, rfl, m, h3, h4⟩
      exact ⟨h1, seps_suf.2 ⟨m, h3, h4⟩⟩
theorem seps_mid : ∀ {KA KC : List Bs} {A C : List (List Pr)} {x : List Pr} {lo hi : Option Bs}, A.length = KA.length → (seps (KA ++ KC) (A ++ x :: C) lo hi ↔ ∃ m1 m2, pre KA A lo m1 ∧ wi m1 m2 x ∧ suf KC C m2 hi)
  | [], KC, [], C, x, lo, hi, _ => ⟨fun h => by obtain ⟨m, h1, h2⟩ := seps_suf.1 h; exact ⟨lo, m, rfl, h1, h2⟩, fun ⟨_, m, e, h1, h2⟩ => by cases e; exact seps_suf.2 ⟨m, h1, h2⟩⟩
  | k :: KA, KC, a :: A, C, x, lo, hi, hl => by
    have ih := seps_mid (KA := KA) (KC := KC) (A := A) (C := C) (x := x) (lo := some k) (hi := hi) (by simpa using hl)
    constructor
    · rintro ⟨h1, h2⟩
      obtain ⟨m1, m2, h3, h4, h5⟩ := ih.1 h2
      exact ⟨m1, m2, ⟨h1, h3⟩, h4, h5⟩
    · rintro ⟨m1, m2, ⟨h1, h3⟩, h4, h5⟩
      exact ⟨h1, ih.2 ⟨m1, m2, h3, h4, h5⟩⟩
  | [], _, _ :: _, _, _, _, _, hl => by simp at hl
  | _ :: _, _, [], _, _, _, _, hl => by simp at hl
theorem pre_last : ∀ {KA : List Bs} {A : List (List Pr)} {lo mid : Option Bs}, pre KA A lo mid → mid = lo ∨ ∃ k ∈ KA, mid = some k
  | [], [], _, _, h => .inl h
  | k :: KA, a :: A, lo, mid, h => by
    rcases pre_last h.2 with h' | ⟨k', h1, h2⟩
    · exact .inr ⟨k, List.mem_cons_self .., h'⟩
    · exact .inr ⟨k', List.mem_cons_of_mem _ h1, h2⟩
  | [], _ :: _, _, _, h => h.elim
  | _ :: _, [], _, _, h => h.elim
theorem suf_head : ∀ {KC : List Bs} {C : List (List Pr)} {mid hi : Option Bs}, suf KC C mid hi → mid = hi ∨ ∃ k ∈ KC, mid = some k
  | [], [], _, _, h => .inl h
  | k :: KC, c :: C, _, _, h => .inr ⟨k, List.mem_cons_self .., h.1⟩
  | [], _ :: _, _, _, h => h.elim
  | _ :: _, [], _, _, h => h.elim
theorem suf_len : ∀ {KC : List Bs} {C : List (List Pr)} {mid hi : Option Bs}, suf KC C mid hi → C.length = KC.length
  | [], [], _, _, h => rfl
  | k :: KC, c :: C, _, _, ⟨_, _, _, h⟩ => by simpa using suf_len h
  | [], _ :: _, _, _, h => h.elim
  | _ :: _, [], _, _, h => h.elim
theorem pre_lt {key : Bs} : ∀ {KA : List Bs} {A : List (List Pr)} {lo mid : Option Bs}, pre KA A lo mid → (∀ k ∈ KA, ltB key k = false) → ∀ x ∈ A.flatten, ltB x.1 key = true
  | [], [], _, _, _, _, x, hx => by simp at hx
  | k :: KA, a :: A, lo, mid, h, hk, x, hx => by
    rcases List.mem_append.1 (List.flatten_cons ▸ hx) with h' | h'
    · exact ltB_le ((h.1 x h').2 k rfl) (hk k (List.mem_cons_self ..))
    · exact pre_lt h.2 (fun k' h' => hk k' (List.mem_cons_of_mem _ h')) x h'
  | [], _ :: _, _, _, h, _, _, _ => h.elim
  | _ :: _, [], _, _, h, _, _, _ => h.elim
theorem suf_gt {key : Bs} : ∀ {KC : List Bs} {C : List (List Pr)} {mid hi : Option Bs}, suf KC C mid hi → (∀ k ∈ KC, ltB key k = true) → ∀ x ∈ C.flatten, ltB key x.1 = true
  | [], [], _, _, _, _, x, hx => by simp at hx
  | k :: KC, c :: C, mid, hi, ⟨_, m, h1, h2⟩, hk, x, hx => by
    rcases List.mem_append.1 (List.flatten_cons ▸ hx) with h' | h'
    · exact ltB_le (hk k (List.mem_cons_self ..)) ((h1 x h').1 k rfl)
    · exact suf_gt h2 (fun k' h' => hk k' (List.mem_cons_of_mem _ h')) x h'
  | [], _ :: _, _, _, h, _, _, _ => h.elim
  | _ :: _, [], _, _, h, _, _, _ => h.elim
theorem seps_cut : ∀ {K1 K2 : List Bs} {k : Bs} {L1 L2 : List (List Pr)} {lo hi : Option Bs}, L1.length = K1.length + 1 → (seps (K1 ++ k :: K2) (L1 ++ L2) lo hi ↔ seps K1 L1 lo (some k) ∧ seps K2 L2 (some k) hi)
  | [], K2, k, [l], L2, lo, hi, _ => Iff.rfl
  | k1 :: K1, K2, k, l :: L1, L2, lo, hi, hl => by
    have ih := seps_cut (K1 := K1) (K2 := K2) (k := k) (L1 := L1) (L2 := L2) (lo := some k1) (hi := hi) (by simpa using hl)
    show wi lo (some k1) l ∧ seps (K1 ++ k :: K2) (L1 ++ L2) (some k1) hi ↔ (wi lo (some k1) l ∧ _) ∧ _
    rw [ih, and_assoc]
  | [], _, _, [], _, _, _, hl => by simp at hl
  | [], _, _, _ :: _ :: _, _, _, _, hl => by simp at hl
  | _ :: _, _, _, [], _, _, _, hl => by simp at hl
theorem seps_wi : ∀ {K : List Bs} {L : List (List Pr)} {lo hi lo' : Option Bs}, seps K L lo hi → leLo lo' lo → (∀ k ∈ K, leLo lo' (some k)) → (∀ k ∈ K, leHi (some k) hi) → wi lo' hi L.flatten
  | [], [l], lo, hi, lo', h, h1, _, _ => by
    simp only [List.flatten_cons, List.flatten_nil, List.append_nil]
    exact h.mono h1 (leHi.refl _)
  | k :: K, l :: L, lo, hi, lo', h, h1, h2, h3 => by
    simp only [List.flatten_cons]
    exact wi.app.2 ⟨h.1.mono h1 (h3 k (List.mem_cons_self ..)), seps_wi h.2 (h2 k (List.mem_cons_self ..)) (fun k' h' => h2 k' (List.mem_cons_of_mem _ h')) (fun k' h' => h3 k' (List.mem_cons_of_mem _ h'))⟩
  | [], [], _, _, _, h, _, _, _ => h.elim
  | [], _ :: _ :: _, _, _, _, h, _, _, _ => h.elim
  | _ :: _, [], _, _, _, h, _, _, _ => h.elim
theorem seps_weak : ∀ {K : List Bs} {L : List (List Pr)} {lo hi lo' hi' : Option Bs}, seps K L lo hi → leLo lo' lo → leHi hi hi' → seps K L lo' hi'
  | [], [l], _, _, _, _, h, h1, h2 => wi.mono h h1 h2
  | k :: K, l :: L, _, _, _, _, h, h1, h2 => ⟨h.1.mono h1 (leHi.refl _), seps_weak h.2 (leLo.refl _) h2⟩
  | [], [], _, _, _, _, h, _, _ => h.elim
  | [], _ :: _ :: _, _, _, _, _, h, _, _ => h.elim
  | _ :: _, [], _, _, _, _, h, _, _ => h.elim
theorem seps_hi : ∀ {K : List Bs} {L : List (List Pr)} {lo hi hi' : Option Bs}, seps K L lo hi → (∀ x ∈ L.flatten, ∀ k, hi' = some k → ltB x.1 k = true) → seps K L lo hi'
  | [], [l], _, _, _, h, h1 => fun x hx => ⟨(h x hx).1, h1 x (by simpa using hx)⟩
  | k :: K, l :: L, _, _, _, h, h1 => ⟨h.1, seps_hi h.2 fun x hx => h1 x (by rw [List.flatten_cons]; exact List.mem_append_right _ hx)⟩
  | [], [], _, _, _, h, _ => h.elim
  | [], _ :: _ :: _, _, _, _, h, _ => h.elim
  | _ :: _, [], _, _, _, h, _ => h.elim
theorem seps_lo : ∀ {K : List Bs} {L : List (List Pr)} {lo hi lo' : Option Bs}, seps K L lo hi → (∀ x ∈ L.flatten, ∀ k, lo' = some k → ltB x.1 k = false) → seps K L lo' hi
  | [], [l], _, _, _, h, h1 => fun x hx => ⟨h1 x (by simpa using hx), (h x hx).2⟩
  | k :: K, l :: L, _, _, _, h, h1 => ⟨fun x hx => ⟨h1 x (by rw [List.flatten_cons]; exact List.mem_append_left _ hx), (h.1 x hx).2⟩, h.2⟩
  | [], [], _, _, _, h, _ => h.elim
  | [], _ :: _ :: _, _, _, _, h, _ => h.elim
  | _ :: _, [], _, _, _, h, _ => h.elim
def ndA : Nat → Nd → List Pr → PA
  | 0, n, l => sx fun es : List (Bs × Bs × Bs) => sta (fct (n = ⟨true, es.map (·.1), es.map (·.2.1), []⟩ ∧ l = es.map fun e => (e.1, e.2.2)) :: es.map fun e => cellA e.2.1 e.2.2)
  | h + 1, n, l => sx fun ks : List (Nat × List Pr) => sta (fct (n = ⟨false, n.keys, [], ks.map (·.1)⟩ ∧ l = (ks.map (·.2)).flatten ∧ seps n.keys (ks.map (·.2)) none none) ::
      ks.map fun k => sx fun m : Nd => sta [fct (m.right ∧ m.keys ≠ []), pg k.1 m.page, ndA h m k.2])
def trA (P : Nd → Prop) (h page : Nat) (l : List Pr) : PA := sx fun m : Nd => sta [fct (m.right ∧ P m), pg page m.page, ndA h m l]
def full (n : Nd) : Prop := n.keys ≠ []
def entA (es : List (Bs × Bs × Bs)) : List PA := es.map fun e => cellA e.2.1 e.2.2
def kidA (h : Nat) (ks : List (Nat × List Pr)) : List PA := ks.map fun k => trA full h k.1 k.2
def leafN (es : List (Bs × Bs × Bs)) : Nd := ⟨true, es.map (·.1), es.map (·.2.1), []⟩
def prsOf (es : List (Bs × Bs × Bs)) : List Pr := es.map fun e => (e.1, e.2.2)
def flat (ks : List (Nat × List Pr)) : List Pr := (ks.map (·.2)).flatten
section
variable {E : En} {KK : List Nat} {s s' : St} {h page : Nat} {n : Nd} {l : List Pr} {b b0 : Bs} {F : List PA} {hp : Ph}
theorem leaf_iff : Al (ndA 0 n l :: F) hp ↔ ∃ es, n = leafN es ∧ l = prsOf es ∧ Al (entA es ++ F) hp := by
  unfold ndA
  rw [Al.sx_iff]
  refine exists_congr fun es => ?_
  rw [Al.sta_iff, List.cons_append, Al.fct_iff, and_assoc]
  rfl
theorem kids_iff : Al (ndA (h + 1) n l :: F) hp ↔ ∃ ks, n = ⟨false, n.keys, [], ks.map (·.1)⟩ ∧ l = flat ks ∧ seps n.keys (ks.map (·.2)) none none ∧ Al (kidA h ks ++ F) hp := by
  unfold ndA
  rw [Al.sx_iff]
  refine exists_congr fun ks => ?_
  rw [Al.sta_iff, List.cons_append, Al.fct_iff, and_assoc, and_assoc]
  rfl
theorem tr_iff {P : Nd → Prop} : Al (trA P h page l :: F) hp ↔ ∃ m : Nd, m.right ∧ P m ∧ Al (pg page m.page :: ndA h m l :: F) hp := by
  unfold trA
  rw [Al.sx_iff]
  refine exists_congr fun m => ?_
  rw [Al.sta_iff, List.cons_append, Al.fct_iff, and_assoc]
  rfl
theorem leaf_ps : PS E KK (ndA 0 n l :: F) s ↔ ∃ es, n = leafN es ∧ l = prsOf es ∧ PS E KK (entA es ++ F) s :=
  ⟨fun a => by obtain ⟨es, h1, h2, h3⟩ := leaf_iff.1 a.1; exact ⟨es, h1, h2, h3, a.2⟩, fun ⟨es, h1, h2, h3⟩ => ⟨leaf_iff.2 ⟨es, h1, h2, h3.1⟩, h3.2⟩⟩
theorem kids_ps : PS E KK (ndA (h + 1) n l :: F) s ↔ ∃ ks, n = ⟨false, n.keys, [], ks.map (·.1)⟩ ∧ l = flat ks ∧ seps n.keys (ks.map (·.2)) none none ∧ PS E KK (kidA h ks ++ F) s :=
  ⟨fun a => by obtain ⟨es, h1, h2, h4, h3⟩ := kids_iff.1 a.1; exact ⟨es, h1, h2, h4, h3, a.2⟩, fun ⟨es, h1, h2, h4, h3⟩ => ⟨kids_iff.2 ⟨es, h1, h2, h4, h3.1⟩, h3.2⟩⟩
theorem tr_ps {P : Nd → Prop} : PS E KK (trA P h page l :: F) s ↔ ∃ m : Nd, m.right ∧ P m ∧ PS E KK (pg page m.page :: ndA h m l :: F) s :=
  ⟨fun a => by obtain ⟨es, h1, h2, h3⟩ := tr_iff.1 a.1; exact ⟨es, h1, h2, h3, a.2⟩, fun ⟨es, h1, h2, h3⟩ => ⟨tr_iff.2 ⟨es, h1, h2, h3.1⟩, h3.2⟩⟩

theorem cutAt_bd {w : Nat → Nat} {k all : Nat} : ∀ {f a p : Nat}, a ≤ Go.Tr.cutAt w k all f a p ∧ (a ≤ k - 1 → Go.Tr.cutAt w k all f a p ≤ k - 1)
  | 0, a, p => ⟨Nat.le_refl _, fun h => h⟩
  | f + 1, a, p => by
    unfold Go.Tr.cutAt
    split
    · have := cutAt_bd (w := w) (k := k) (all := all) (f := f) (a := a + 1) (p := p + w a)
      exact ⟨by omega, fun _ => this.2 (by omega)⟩
    · exact ⟨Nat.le_refl _, fun h => h⟩
theorem cut_bd {n : Nd} (h2 : 2 ≤ n.keys.length) : 1 ≤ n.cut ∧ n.cut ≤ n.keys.length - 1 := by
  have hpos : 0 < ((List.range n.keys.length).map n.weight).sum := by
    obtain ⟨m, hm⟩ : ∃ m, n.keys.length = m + 1 := ⟨n.keys.length - 1, by omega⟩
    rw [hm, List.range_succ, List.map_append, List.sum_append]
    have : 1 ≤ n.weight m := by unfold Nd.weight Nd.cell; split <;> omega
    simp; omega
  unfold Nd.cut
  refine ⟨?_, cutAt_bd.2 (by omega)⟩
  obtain ⟨m, hm⟩ : ∃ m, n.keys.length = m + 1 := ⟨n.keys.length - 1, by omega⟩
  rw [hm] at hpos ⊢
  unfold Go.Tr.cutAt
  rw [if_pos (by omega)]
  have := (cutAt_bd (w := n.weight) (k := m + 1) (all := ((List.range (m + 1)).map n.weight).sum) (f := m) (a := 0 + 1) (p := 0 + n.weight 0)).1
  omega
theorem rising_iff : ∀ {l : List Bs}, rising l ↔ l.Pairwise fun a b => ltB a b = true
  | [] => ⟨fun _ => .nil, fun _ => trivial⟩
  | [a] => ⟨fun _ => by simp, fun _ => trivial⟩
  | a :: b :: l => by
    have ih := rising_iff (l := b :: l)
    show ltB a b = true ∧ rising (b :: l) ↔ _
    rw [ih, List.pairwise_cons (a := a)]
    constructor
    · rintro ⟨h1, h2⟩
      refine ⟨fun x hx => ?_, h2⟩
      rcases List.mem_cons.1 hx with rfl | hx
      · exact h1
      · exact ltB_trans h1 ((List.pairwise_cons.1 h2).1 x hx)
    · rintro ⟨h1, h2⟩
      exact ⟨h1 b (List.mem_cons_self ..), h2⟩
theorem split_ok {a c : Nd} {key : Bs} (hs : n.split = some (a, c, key)) (A : Al (ndA h n l :: F) hp) :
    ∃ l1 l2, l = l1 ++ l2 ∧ wi none (some key) l1 ∧ wi (some key) none l2 ∧ a.keys ≠ [] ∧ c.keys ≠ [] ∧ Al (ndA h a l1 :: ndA h c l2 :: F) hp := by
  unfold Nd.split at hs
  by_cases hn : ¬ n.sound ∨ n.keys.length < (if n.leaf = true then 2 else 3)
  · rw [if_pos hn] at hs; cases hs
  rw [if_neg hn] at hs
  have hsd : n.sound := Classical.not_not.1 fun h => hn (.inl h)
  have hri := rising_iff.1 hsd.2.1
  cases h with
  | zero =>
    obtain ⟨es, hne, rfl, A2⟩ := leaf_iff.1 A
    have hlf : n.leaf = true := by rw [hne]; rfl
    rw [hlf] at hn
    simp only [if_true] at hn
    have hlen : n.keys.length = es.length := by rw [hne]; simp [leafN]
    have hbd := cut_bd (n := n) (by omega)
    rw [if_pos hlf] at hs
    obtain ⟨c, hc⟩ : ∃ c, n.cut = c := ⟨_, rfl⟩
    rw [hc] at hs hbd
    cases hs
    have hget : n.keys.getD c [] = (es[c]'(by omega)).1 := by
      rw [List.getD_eq_getElem?_getD, List.getElem?_eq_getElem (by omega), Option.getD_some]
      simp only [hne, leafN, List.getElem_map]
    have hke : n.keys = es.map (·.1) := by rw [hne]; rfl
    have hve : n.vals = es.map (·.2.1) := by rw [hne]; rfl
    rw [hke] at hri
    rw [hget]
    refine ⟨prsOf (es.take c), prsOf (es.drop c), by simp only [prsOf, ← List.map_append, List.take_append_drop], fun x hx => ⟨fun k hk => (by cases hk), fun k hk => ?_⟩, fun x hx => ⟨fun k hk => ?_, fun k hk => (by cases hk)⟩, ?_, ?_, ?_⟩
    · cases hk
      obtain ⟨e, he, rfl⟩ := List.mem_map.1 hx
      obtain ⟨i, hi, rfl⟩ := List.mem_iff_getElem.1 he
      rw [List.length_take] at hi
      have := List.pairwise_iff_getElem.1 hri i c (by simp; omega) (by simp; omega) (by omega)
      simpa [List.getElem_take] using this
    · cases hk
      obtain ⟨e, he, rfl⟩ := List.mem_map.1 hx
      obtain ⟨i, hi, rfl⟩ := List.mem_iff_getElem.1 he
      rw [List.length_drop] at hi
      rw [List.getElem_drop]
      rcases Nat.eq_zero_or_pos i with rfl | h0
      · exact ltB_irrefl _
      · have := List.pairwise_iff_getElem.1 hri c (c + i) (by simp; omega) (by simp; omega) (by omega)
        exact ltB_asymm (by simpa using this)
    · intro h; have := congrArg List.length h; rw [List.length_take, List.length_nil] at this; omega
    · intro h; have := congrArg List.length h; rw [List.length_drop, List.length_nil] at this; omega
    · refine leaf_iff.2 ⟨es.take c, by rw [hke, hve]; simp [leafN, List.map_take], rfl, ?_⟩
      refine Al.swap_app (leaf_iff.2 ⟨es.drop c, by rw [hke, hve]; simp [leafN, List.map_drop], rfl, ?_⟩)
      have e : entA es = entA (es.take c) ++ entA (es.drop c) := by simp only [entA, ← List.map_append, List.take_append_drop]
      rw [e, List.append_assoc] at A2
      have := A2.swap_app
      exact (List.append_assoc _ _ _ ▸ this : Al _ hp)
  | succ h =>
    obtain ⟨ks, hne, rfl, hsp, A2⟩ := kids_iff.1 A
    have hlf : n.leaf = false := by rw [hne]
    rw [hlf] at hn
    simp only [Bool.false_eq_true, if_false] at hn
    have hbd := cut_bd (n := n) (by omega)
    rw [if_neg (by rw [hlf]; decide)] at hs
    dsimp only [] at hs
    cases hs
    have hkl := seps_len hsp
    rw [List.length_map] at hkl
    have hki : n.kids = ks.map (·.1) := by rw [hne]
    generalize ha : max 2 n.cut = a at *
    have ha1 : 2 ≤ a ∧ a ≤ n.keys.length - 1 := by omega
    generalize n.keys = K at *
    have hget : K.getD (a - 1) [] = K[a - 1]'(by omega) := by
      rw [List.getD_eq_getElem?_getD, List.getElem?_eq_getElem (by omega), Option.getD_some]
    have hK : K = K.take (a - 1) ++ K[a - 1]'(by omega) :: K.drop a := by
      have := List.take_append_drop (a - 1) K
      rw [List.drop_eq_getElem_cons (by omega), show a - 1 + 1 = a by omega] at this
      exact this.symm
    rw [hget]
    generalize hkk : K[a - 1]'(by omega) = kk at *
    have hks : ks.map (·.2) = (ks.take a).map (·.2) ++ (ks.drop a).map (·.2) := by rw [← List.map_append, List.take_append_drop]
    have hcut := hsp
    rw [hks, hK] at hcut
    rw [seps_cut (by simp; omega)] at hcut
    have hri2 := hri
    rw [hK, List.pairwise_append] at hri2
    obtain ⟨_, hr2, hr3⟩ := hri2
    have hr4 := (List.pairwise_cons.1 hr2).1
    refine ⟨flat (ks.take a), flat (ks.drop a), by simp only [flat]; rw [← List.flatten_append, ← hks], ?_, ?_, ?_, ?_, ?_⟩
    · exact seps_wi hcut.1 (leLo.refl _) (fun k hk => leLo.none _) fun k hk y hy => by
        cases hy; exact ⟨k, rfl, ltB_asymm (hr3 k hk kk (List.mem_cons_self ..))⟩
    · exact seps_wi hcut.2 (leLo.refl _) (fun k hk y hy => by cases hy; exact ⟨k, rfl, ltB_asymm (hr4 k hk)⟩) fun k hk => leHi.none _
    · intro h; have := congrArg List.length h; rw [List.length_take, List.length_nil] at this; omega
    · intro h; have := congrArg List.length h; rw [List.length_drop, List.length_nil] at this; omega
    · refine kids_iff.2 ⟨ks.take a, by simp [hki, List.map_take], rfl, seps_weak hcut.1 (leLo.refl _) (leHi.none _), ?_⟩
      refine Al.swap_app (kids_iff.2 ⟨ks.drop a, by simp [hki, List.map_drop], rfl, seps_weak hcut.2 (leLo.none _) (leHi.refl _), ?_⟩)
      have e : kidA h ks = kidA h (ks.take a) ++ kidA h (ks.drop a) := by simp only [kidA, ← List.map_append, List.take_append_drop]
      rw [e, List.append_assoc] at A2
      have := A2.swap_app
      exact (List.append_assoc _ _ _ ▸ this : Al _ hp)
def resA (h : Nat) (m : Md) (n : Nd) (l : List Pr) : PA := match m.other with
  | none => sta [fct (n.right ∧ m.size = n.size), pg m.page n.page, ndA h n l]
  | some o => sx fun x : List Pr × List Pr => sta [fct (l = x.1 ++ x.2 ∧ wi none (some m.key) x.1 ∧ wi (some m.key) none x.2 ∧ m.size = 256), trA full h m.page x.1, trA full h o x.2]
theorem save_ok (a : PS E KK (pg page b0 :: ndA h n l :: F) s) : Ok (saveM E page n) s fun m s' => PS E KK (resA h m n l :: F) s' := by
  refine Ok.ite (fun hr => Ok.bind ((putN_ok' a).mono fun k s1 h1 => Ok.pure ?_)) fun hr => ?_
  · exact PS.sta_iff.2 (PS.fct_iff.2 ⟨⟨hr, rfl⟩, h1.2⟩)
  · cases hsp : n.split with
    | none => exact Ok.fail
    | some x =>
      obtain ⟨l', r', key⟩ := x
      dsimp only []
      obtain ⟨l1, l2, rfl, hw1, hw2, hf1, hf2, A⟩ := split_ok (F := pg page b0 :: F) hsp ((a.1.swap : Al _ _))
      have a1 : PS E KK (pg page b0 :: ndA h l' l1 :: ndA h r' l2 :: F) s := PS.pickF 3 [2, 0, 1] rfl rfl ⟨A, a.2⟩
      refine Ok.bind ((putN_ok' a1).mono fun k s1 h1 => Ok.bind ((putN_ok h1.2).mono fun o s2 h2 => Ok.pure ?_))
      refine PS.sx_iff.2 ⟨(l1, l2), PS.sta_iff.2 (PS.fct_iff.2 ⟨⟨rfl, hw1, hw2, rfl⟩, ?_⟩)⟩
      have h3 := h2.2.pickF 4 [1, 2, 0, 3] rfl rfl
      have h4 : PS E KK (trA full h k l1 :: pg o r'.page :: ndA h r' l2 :: F) s2 := tr_ps.2 ⟨l', h1.1, hf1, h3⟩
      exact (PS.pickF 2 [1, 0] rfl rfl (tr_ps.2 ⟨r', h2.1, hf2, h4.pickF 3 [1, 2, 0] rfl rfl⟩))
end
end Go.Pa

namespace Go.Sl
open Go

section
variable {P : Program} {r : Option Nat} {fr : Fr} {d : Option Tmp} {ty : TypeId} {pos : String} {aft : Array Edge} {g : Option (Nat × Bool)} {v u z vx vy : Value} {x y c i : Operand} {t s e : TypeId} {w : World} {l F : List Assn} {b o : Nat} {cs : List Value} {G : List Value → List Assn}

theorem foldl_set (vs : List Value) : ∀ (j : Nat) (off : Nat) (cells : Array Value), (vs.zipIdx j).foldl (fun (cs : Array Value) (x : Value × Nat) => cs.setIfInBounds (off + x.2) x.1) cells = (splice cells.toList (off + j) vs).toArray := by
  induction vs with
  | nil => intro j off cells; simp [splice]
  | cons v vs ih =>
    intro j off cells
    simp only [List.zipIdx_cons, List.foldl_cons, splice]
    rw [ih (j + 1) off]
    simp [Nat.add_assoc]
def lay (place : Nat → Option (Nat × Nat)) : List Value → List (Nat × List Value) → Option (List Value)
  | cells, [] => some cells
  | cells, (i, vs) :: rest => match place i with
    | some (off, _) => lay place (splice cells off vs) rest
    | none => none
def layOk (place : Nat → Option (Nat × Nat)) (n : Nat) : List (Nat × List Value) → Prop
  | [] => True
  | (i, vs) :: rest => (∃ off, place i = some (off, vs.length) ∧ off + vs.length ≤ n) ∧ layOk place n rest
theorem fill_lay (place : Nat → Option (Nat × Nat)) : ∀ (ps : List (Nat × Value)) (pl : List (Nat × List Value)) (cells : List Value) (out : List Value), ps.map (fun p => (p.1, p.2.cells)) = pl.map (fun p => (p.1, p.2.toArray)) → layOk place cells.length pl → lay place cells pl = some out →
    Instr.fill place cells.toArray ps = some out.toArray
  | [], [], cells, out, _, _, h => by simp [lay] at h; subst h; rfl
  | [], _ :: _, _, _, e, _, _ => by simp at e
  | _ :: _, [], _, _, e, _, _ => by simp at e
  | (i, v) :: ps, (i', vs) :: pl, cells, out, e, ho, h => by
    simp only [List.map_cons, List.cons.injEq, Prod.mk.injEq] at e
    obtain ⟨⟨rfl, ev⟩, e⟩ := e
    obtain ⟨⟨off, hp, hle⟩, ho⟩ := ho
    simp only [lay, hp] at h
    unfold Instr.fill
    have hsz : v.cells.size = vs.length := by rw [ev]; simp
    have hn : ¬ (cells.toArray.size < off + v.cells.size) := by simp [hsz]; omega
    have hfold : Array.foldl (fun (cs : Array Value) (x : Value × Nat) => cs.setIfInBounds (off + x.2) x.1) cells.toArray v.cells.zipIdx = (splice cells off vs).toArray := by
      rw [ev, ← Array.foldl_toList]
      have := foldl_set vs 0 off cells.toArray
      simpa using this
    simp only [hp, hsz, ne_eq, not_true_eq_false, false_or, List.size_toArray]
    rw [if_neg (by simp; omega)]
    have hf2 : (Array.foldl (fun (cs : Array Value) x => match x with | (c, j) => cs.setIfInBounds (off + j) c) cells.toArray v.cells.zipIdx) = (splice cells off vs).toArray := hfold
    rw [hf2]
    exact fill_lay place ps pl (splice cells off vs) out e (by rw [splice_length]; exact ho) h
class TyS (P : Program) (t : TypeId) (pl : outParam (List (Nat × Nat))) : Prop where
  h : ∃ fields : Array Field, P.underlying t = some (.struct fields) ∧ ∀ w, ((fields.mapM (fun f => do pure (f.offset, ← sizeOf f.type)) : Sem (Array (Nat × Nat)))).run P w = .ok pl.toArray w
def evps (fr : Fr) : List (Nat × Operand) → Option (List (Nat × Value))
  | [] => some []
  | (i, x) :: r => match ev fr x, evps fr r with
    | some v, some vs => some ((i, v) :: vs)
    | _, _ => none
theorem evps_map {n : Nat} {ds : List Deferred} {a : Act} (hf : Fits n ds fr a) : ∀ {ps : List (Nat × Operand)} {vs : List (Nat × Value)}, evps fr ps = some vs → ps.map (fun p => (p.1, a.eval p.2)) = vs
  | [], vs, h => by simp [evps] at h; simp [h]
  | (i, x) :: r, vs, h => by
    simp only [evps] at h
    split at h
    · rename_i v vs' h1 h2
      cases h
      simp [hf.ev h1, evps_map hf h2]
    · cases h
theorem po_build {agg : Bool} {size bytes : Nat} {zero : List Value} {pl : List (Nat × Nat)} [hI : TyI P t agg size bytes zero] [hS : TyS P t pl] {ps : Array (Nat × Operand)} {vs : List (Nat × Value)} {ls : List (Nat × List Value)} {out : List Value} (hv : evps fr ps.toList = some vs)
    (hc : vs.map (fun p => (p.1, p.2.cells)) = ls.map (fun p => (p.1, p.2.toArray))) (ho : layOk (pl[·]?) zero.length ls) (h : lay (pl[·]?) zero ls = some out) : Pure P ⟨d, .build t ps, ty, pos, aft, g⟩ fr (.agg out.toArray) := fun n ds a hf w => by
  obtain ⟨fields, h1, h2⟩ := hS.h
  have e1 : (ps.map fun (i, x) => (i, a.eval x)).toList = vs := by simpa using evps_map hf hv
  have e2 : (fun i : Nat => pl.toArray[i]?) = (fun i : Nat => pl[i]?) := by funext i; simp
  have hfill := fill_lay (fun i : Nat => pl[i]?) vs ls zero out hc ho h
  simp only [execOp, Instr.build, Sem.run_bind, TyI.run_zero (P := P) (t := t) w, Result.andThen_ok, TyI.zero_cells P t, run_underlying h1 w, h2 w, e1, e2, hfill]
  rfl
theorem does_buildSlice {agg : Bool} {size bytes : Nat} {zero : List Value} [hT : TyU P t (.slice e)] [hI : TyI P e agg size bytes zero] {n : Nat} {ps : Array (Nat × Operand)} {vs : List (Nat × Value)} {ls : List (Nat × List Value)} {out : List Value} (hs : Sat l w) (hv : evps fr ps.toList = some vs)
    (hc : vs.map (fun p => (p.1, p.2.cells)) = ls.map (fun p => (p.1, p.2.toArray))) (ho : layOk (fun i => some (i * size, size)) (rep n zero).length ls) (h : lay (fun i => some (i * size, size)) (rep n zero) ls = some out) (hn : Nat.ble (n * size) 16777216 = true) :
    Does P r ⟨d, .buildSlice t n ps, ty, pos, aft, g⟩ fr w (fun v w' => ∃ b, v = .slice (some ⟨b, 0, none⟩) n n ∧ Sat (blk b out e :: l) w') := by
  refine does_value fun m ds a hf => ⟨_, w.alloc (.cells out.toArray e), ?_, w.heap.size, rfl, hs.alloc out e⟩
  have e1 : (ps.map fun (i, x) => (i, a.eval x)).toList = vs := by simpa using evps_map hf hv
  have hfill := fill_lay (fun i => some (i * size, size)) vs ls (rep n zero) out hc ho h
  have hn' : ¬ (16777216 < n * size) := by have : n * size ≤ 16777216 := by simpa using hn
                                           omega
  obtain ⟨_, _, _, _, _, _, hzl, _⟩ := hI.info
  have hZ := zeros_eq n zero (by
    rcases Nat.eq_zero_or_pos zero.length with h0 | h0
    · left; simp [h0]
    · exact .inr h0)
  rw [hzl] at hZ
  unfold madeCells at hZ
  simp only [execOp, Instr.buildSlice, Sem.run_bind, TyU.run (P := P) (t := t) w, Result.andThen_ok, TyI.run_size (P := P) (t := e) w, e1]
  rw [if_neg (by simpa using hn')]
  by_cases h0 : n * size = 0
  · have hr : rep n zero = [] := List.eq_nil_of_length_eq_zero (by rw [rep_length, hzl]; exact h0)
    rw [hr] at hfill
    simp only [h0, if_true]
    simp only [Sem.run_pure, Sem.run_bind, Result.andThen_ok, Array.range_zero', Array.map_empty, hfill, newRow, newObj]
    rfl
  · simp only [h0, if_false]
    simp only [Sem.run_pure, Sem.run_bind, Result.andThen_ok, TyI.run_zero (P := P) (t := e) w, TyI.zero_cells P e, hZ, hfill, newRow, newObj]
    rfl
theorem does_buildSlice0 {agg : Bool} {size bytes : Nat} {zero : List Value} [hT : TyU P t (.slice e)] [hI : TyI P e agg size bytes zero] (hs : Sat l w) : Does P r ⟨d, .buildSlice t 0 #[], ty, pos, aft, g⟩ fr w (fun v w' => ∃ b, v = .slice (some ⟨b, 0, none⟩) 0 0 ∧ Sat (blk b [] e :: l) w') :=
  does_buildSlice (vs := []) (ls := []) (out := []) hs rfl rfl trivial (by simp [lay, rep]) (by simp)

def Src2 (P : Program) (size : Nat) (u : Value) (m : Nat) (news : List Value) (l : List Assn) : Prop :=
  news.length = m * size ∧ (∀ v ∈ news, v.oneCell' = true) ∧ (∀ w, (Builtin.lenOf u).run P w = .ok m w) ∧ ∀ w, Sat l w → ∀ k, k ≤ m → (Builtin.firstCells size k u).run P w = .ok (news.take (k * size)).toArray w
theorem RdS.src2 {size : Nat} {m : Nat} {news : List Value} (hr : RdS F size v m news) (h1 : ∀ u ∈ news, u.oneCell' = true) [hF : Suf l F] : Src2 P size v m news l := by
  obtain ⟨p, c, rfl, hc, hl, hp⟩ := hr
  refine ⟨hl, h1, fun w => by simp [Builtin.lenOf], fun w hs k hk => ?_⟩
  have hkm : k * size ≤ m * size := Nat.mul_le_mul_right _ hk
  by_cases h0 : 0 < m * size
  · obtain ⟨b, o, rfl, hrd⟩ := hp h0
    refine run_firstCells_some w size k ⟨b, o, none⟩ m c (news.take (k * size)) (by simp; omega) fun j x hj => ?_
    rw [Addr.add_lit]
    rw [List.getElem?_take] at hj
    split at hj
    · exact hrd w (Suf.sat hs) j x hj
    · cases hj
  · have hz : k * size = 0 := by omega
    have hn : news = [] := List.eq_nil_of_length_eq_zero (by omega)
    subst hn
    cases p with
    | none => simpa using run_firstCells_none w size k m c
    | some a => rw [List.take_nil]; exact run_firstCells_some w size k a m c [] (by simp [hz]) (fun j x hj => by simp at hj)
theorem src2_rd {size m c q : Nat} {news : List Value} (hr : Rd F b q news) (hl : news.length = m * size) (h1 : ∀ u ∈ news, u.oneCell' = true) [hF : Suf l F] : Src2 P size (.slice (some ⟨b, q, none⟩) m c) m news l := by
  refine ⟨hl, h1, fun w => by simp [Builtin.lenOf], fun w hs k hk => ?_⟩
  have hkm : k * size ≤ m * size := Nat.mul_le_mul_right _ hk
  refine run_firstCells_some w size k ⟨b, q, none⟩ m c (news.take (k * size)) (by simp; omega) fun j x hj => ?_
  rw [Addr.add_lit]
  rw [List.getElem?_take] at hj
  split at hj
  · exact hr w (Suf.sat hs) j x hj
  · cases hj
theorem does_copy {agg : Bool} {size bytes : Nat} {zero : List Value} {e' : TypeId} [hT : TyU P t (.slice e)] [hI : TyI P e agg size bytes zero] [hA : At l b cs e' G] {tx : TypeId} {n c m : Nat} {news : List Value} (hs : Sat l w) (hx : ev fr x = some (.slice (some ⟨b, o, none⟩) n c)) (hy : ev fr y = some u) (hsrc : Src2 P size u m news l) (hlen : o + min m n * size ≤ cs.length) :
    Does P r ⟨d, .call { callee := .builtin .copy, args := #[x, y], argTypes := #[t, tx] }, ty, pos, aft, g⟩ fr w (fun v' w' => v' = .int .i64 ((min m n : Nat) : Int) ∧ Sat (G (splice cs o (news.take (min m n * size)))) w') := by
  obtain ⟨k1, k2, k3, k4⟩ := hsrc
  refine does_value fun _ ds a hf => ?_
  obtain ⟨i, h1, h2⟩ := hA.out
  have hk : min m n * size ≤ m * size := Nat.mul_le_mul_right _ (Nat.min_le_left _ _)
  obtain ⟨w', hr, hS⟩ := run_storeCells (P := P) b o (news.take (min m n * size)) 0 cs w (hs.pull i h1) (by simp; omega) (fun v hv => k2 v (List.mem_of_mem_take hv))
  refine ⟨.int .i64 ((min m n : Nat) : Int), w', ?_, rfl, ?_⟩
  · simp [execOp, resolve, invoke, builtin, hf.ev hx, hf.ev hy, Builtin.copy_, TyU.run (P := P) (t := t) w, k3, TyI.run_size (P := P) (t := e) w, k4 w hs _ (Nat.min_le_left m n), hr, goInt]
  · exact At.upd (h := hA) hs hS

theorem push_all (ls : List UInt8) : ∀ s : ByteArray, (ls.map fun c => (c.toNat : Int)).foldl (fun r n => r.push (UInt8.ofNat n.toNat)) s = ⟨s.data ++ ls.toArray⟩ := by
  induction ls with
  | nil => intro s; simp
  | cons c ls ih =>
    intro s
    simp only [List.map_cons, List.foldl_cons]
    rw [ih]
    apply ByteArray.ext
    simp [ByteArray.push]
theorem la_tostr {src dst : TypeId} [h1 : TyU P src (.slice e)] [h2 : TyU P e (.int .u8)] [h3 : TyU P dst .string] {m : Nat} {ls : List UInt8} (hx : ev fr x = some v) (hr : RdS F 1 v m (bytesV ls)) [hF : Suf l F] (hs : Sat l w) : LooksAt P ⟨d, .convert src dst x, ty, pos, aft, g⟩ fr w (Sat F) (str ls) := by
  refine ⟨fun n ds a hf w hC => ?_, Suf.sat hs⟩
  obtain ⟨p, c, rfl, hc, hl, hp⟩ := hr
  simp only [bytesV_length, Nat.mul_one] at hl
  have hb : (Conv.bytesToString (.slice p m c)).run P w = .ok (str ls) w := by
    have key : ∀ ad : Addr, p = some ad → (loadCells ad m).run P w = .ok (bytesV ls).toArray w → (Conv.bytesToString (.slice p m c)).run P w = .ok (str ls) w := by
      rintro ad rfl hload
      have := run_bytesToString (P := P) w ad m c (ls.map fun c => (c.toNat : Int)) (by rw [hload]; simp [bytesV, List.map_map, Function.comp_def])
      rw [this, push_all]
      simp [str]
    by_cases h0 : 0 < m * 1
    · obtain ⟨b, o, rfl, hrd⟩ := hp h0
      refine key _ rfl ?_
      have := run_loadCells_list (P := P) w ⟨b, o, none⟩ (bytesV ls) (fun j u hj => by rw [Addr.add_lit]; exact hrd w hC j u hj)
      rwa [bytesV_length, hl] at this
    · have hm : m = 0 := by omega
      subst hm
      have hn : ls = [] := List.eq_nil_of_length_eq_zero hl
      subst hn
      cases p with
      | none => simp [Conv.bytesToString]; rfl
      | some ad => exact key ad rfl (by have := run_loadCells_list (P := P) w ad [] (by simp); simpa [bytesV] using this)
  have := run_convert_bytes_string (P := P) w src dst e p m c h1.h h2.h h3.h
  simp [execOp, hf.ev hx, this, hb]
end
end Go.Sl
