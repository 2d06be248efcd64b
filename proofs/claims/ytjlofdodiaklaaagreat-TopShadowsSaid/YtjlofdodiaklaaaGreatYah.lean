/-
  Keys set in a tree of pages
-/
import Derived.Test.YtjlofdodiaklaaaGreatYaf
set_option linter.unusedVariables false
set_option linter.unusedSimpArgs false
namespace Go.Pa
open Go.Tr

def insL (l : List Pr) (k v : Bs) : List Pr := l.filter (fun x => ltB x.1 k) ++ (k, v) :: l.filter (fun x => ltB k x.1)
def delL (l : List Pr) (k : Bs) : List Pr := l.filter (fun x => ltB x.1 k) ++ l.filter (fun x => ltB k x.1)
def hasK (l : List Pr) (k : Bs) : Bool := l.any fun x => decide (x.1 = k)
theorem filter_all {p : Pr → Bool} {l : List Pr} (h : ∀ x ∈ l, p x = true) : l.filter p = l := List.filter_eq_self.2 h
theorem filter_no {p : Pr → Bool} {l : List Pr} (h : ∀ x ∈ l, p x = false) : l.filter p = [] := List.filter_eq_nil_iff.2 fun x hx => by rw [h x hx]; decide
section
variable {A B C : List Pr} {k v : Bs}
theorem insL_mid (h1 : ∀ x ∈ A, ltB x.1 k = true) (h2 : ∀ x ∈ C, ltB k x.1 = true) : insL (A ++ B ++ C) k v = A ++ insL B k v ++ C := by
  unfold insL
  simp only [List.filter_append]
  rw [filter_all h1, filter_all h2, filter_no (l := A) (p := fun x => ltB k x.1) fun x hx => ltB_asymm (h1 x hx), filter_no (l := C) (p := fun x => ltB x.1 k) fun x hx => ltB_asymm (h2 x hx)]
  simp
theorem delL_mid (h1 : ∀ x ∈ A, ltB x.1 k = true) (h2 : ∀ x ∈ C, ltB k x.1 = true) : delL (A ++ B ++ C) k = A ++ delL B k ++ C := by
  unfold delL
  simp only [List.filter_append]
  rw [filter_all h1, filter_all h2, filter_no (l := A) (p := fun x => ltB k x.1) fun x hx => ltB_asymm (h1 x hx), filter_no (l := C) (p := fun x => ltB x.1 k) fun x hx => ltB_asymm (h2 x hx)]
  simp
theorem hasK_mid (h1 : ∀ x ∈ A, ltB x.1 k = true) (h2 : ∀ x ∈ C, ltB k x.1 = true) : hasK (A ++ B ++ C) k = hasK B k := by
  unfold hasK
  have e1 : (A.any fun x => decide (x.1 = k)) = false := List.any_eq_false.2 (fun x hx => by simpa using ltB_ne (h1 x hx))
  have e2 : (C.any fun x => decide (x.1 = k)) = false := List.any_eq_false.2 (fun x hx => by simpa using (ltB_ne (h2 x hx)).symm)
  rw [List.any_append, List.any_append, e1, e2, Bool.false_or, Bool.or_false]
theorem insL_wi {l : List Pr} {lo hi : Option Bs} (h : wi lo hi l) (h1 : ∀ x, lo = some x → ltB k x = false) (h2 : ∀ x, hi = some x → ltB k x = true) : wi lo hi (insL l k v) := fun x hx => by
  unfold insL at hx
  rcases List.mem_append.1 hx with hx | hx
  · exact h x (List.mem_filter.1 hx).1
  · rcases List.mem_cons.1 hx with rfl | hx
    · exact ⟨h1, h2⟩
    · exact h x (List.mem_filter.1 hx).1
theorem delL_wi {l : List Pr} {lo hi : Option Bs} (h : wi lo hi l) : wi lo hi (delL l k) := h.sub fun x hx => by
  unfold delL at hx
  rcases List.mem_append.1 hx with hx | hx <;> exact (List.mem_filter.1 hx).1
end

theorem ins_mid {α : Type} {x : α} : ∀ {A B : List α} {i : Nat}, i = A.length → (A ++ B).insertIdx i x = A ++ x :: B
  | [], B, _, h => by subst h; rfl
  | a :: A, B, _, h => by subst h; exact congrArg (a :: ·) (ins_mid rfl)
theorem take_while {p : Bs → Bool} (K : List Bs) : K.take (K.takeWhile p).length = K.takeWhile p ∧ K.drop (K.takeWhile p).length = K.dropWhile p := by
  have h := List.takeWhile_append_dropWhile (p := p) (l := K)
  have h1 : (K.takeWhile p ++ K.dropWhile p).take (K.takeWhile p).length = K.takeWhile p := List.take_left
  have h2 : (K.takeWhile p ++ K.dropWhile p).drop (K.takeWhile p).length = K.dropWhile p := List.drop_left
  rw [h] at h1 h2
  exact ⟨h1, h2⟩
theorem mem_while {p : Bs → Bool} : ∀ {K : List Bs} {x : Bs}, x ∈ K.takeWhile p → p x = true
  | [], _, h => by simp at h
  | a :: K, x, h => by
    rw [List.takeWhile_cons] at h
    split at h
    · next hp =>
      rcases List.mem_cons.1 h with rfl | h
      · exact hp
      · exact mem_while h
    · cases h
theorem drop_first {p : Bs → Bool} : ∀ {K : List Bs} {b : Bs} {B : List Bs}, K.dropWhile p = b :: B → p b = false
  | [], _, _, h => by simp at h
  | a :: K, b, B, h => by
    rw [List.dropWhile_cons] at h
    split at h
    · exact drop_first h
    · next hp => cases h; simpa using hp
theorem below_spec {K : List Bs} {key : Bs} (hr : K.Pairwise fun a b => ltB a b = true) : (∀ k ∈ K.take (below K key), ltB k key = true) ∧ (∀ k ∈ K.drop (below K key), ltB k key = false) ∧ below K key ≤ K.length := by
  obtain ⟨h1, h2⟩ := take_while (p := fun k => ltB k key) K
  refine ⟨fun k hk => ?_, fun k hk => ?_, ?_⟩
  · unfold below at hk; rw [h1] at hk
    exact mem_while (p := fun k => ltB k key) hk
  · unfold below at hk; rw [h2] at hk
    have hp : (K.dropWhile fun k => ltB k key).Pairwise fun a b => ltB a b = true := hr.sublist (List.dropWhile_sublist _)
    cases hd : K.dropWhile fun k => ltB k key with
    | nil => rw [hd] at hk; cases hk
    | cons b B =>
      have hb := drop_first hd
      rw [hd] at hk hp
      rcases List.mem_cons.1 hk with rfl | hk
      · exact hb
      · have := (List.pairwise_cons.1 hp).1 k hk
        cases h3 : ltB k key with
        | false => rfl
        | true => rw [ltB_trans this h3] at hb; cases hb
  · exact (List.takeWhile_sublist _).length_le
section
variable {E : En} {KK : List Nat} {s s' : St} {h page : Nat} {n : Nd} {l : List Pr} {b b0 key cell v : Bs} {F : List PA} {hp : Ph}
theorem leaf_find {es : List (Bs × Bs × Bs)} (hn : n = leafN es) (hr : rising n.keys) : ∃ i, n.find key = (i, hasK (prsOf es) key) ∧ i ≤ es.length ∧ (∀ e ∈ es.take i, ltB e.1 key = true) ∧
    (if hasK (prsOf es) key = true then ∃ e C, es.drop i = e :: C ∧ e.1 = key ∧ ∀ x ∈ C, ltB key x.1 = true else ∀ x ∈ es.drop i, ltB key x.1 = true) := by
  have hk : n.keys = es.map (·.1) := by rw [hn]; rfl
  obtain ⟨h1, h2, h3⟩ := below_spec (key := key) (rising_iff.1 hr)
  have hlf : n.leaf = true := by rw [hn]; rfl
  have hpw := rising_iff.1 hr
  unfold Nd.find
  rw [if_pos hlf]
  generalize below n.keys key = i at *
  rw [hk] at h1 h2 h3 hpw
  rw [List.length_map] at h3
  rw [← List.map_take] at h1
  rw [← List.map_drop] at h2
  have h1' : ∀ e ∈ es.take i, ltB e.1 key = true := fun e he => h1 _ (List.mem_map_of_mem he)
  have hpd : (es.drop i).Pairwise fun a b => ltB a.1 b.1 = true := by
    have := hpw
    rw [List.pairwise_map] at this
    exact this.sublist (List.drop_sublist _ _)
  have hsplit : prsOf es = prsOf (es.take i) ++ prsOf (es.drop i) ++ [] := by simp [prsOf, ← List.map_append]
  have hh : hasK (prsOf es) key = hasK (prsOf (es.drop i)) key := by
    rw [hsplit]
    exact hasK_mid (fun x hx => by obtain ⟨e, he, rfl⟩ := List.mem_map.1 hx; exact h1' e he) (fun x hx => by cases hx)
  have hgt : n.keys[i]? = (es.drop i).head?.map (·.1) := by rw [hk, List.getElem?_map, List.head?_drop]
  have key2 : decide (n.keys[i]? = some key) = hasK (prsOf es) key ∧ (if hasK (prsOf es) key = true then ∃ e C, es.drop i = e :: C ∧ e.1 = key ∧ ∀ x ∈ C, ltB key x.1 = true else ∀ x ∈ es.drop i, ltB key x.1 = true) := by
    rw [hh, hgt]
    cases hd : es.drop i with
    | nil => exact ⟨rfl, fun x hx => by cases hx⟩
    | cons e C =>
      rw [hd] at hpd h2
      obtain ⟨h4, h5⟩ := List.pairwise_cons.1 hpd
      by_cases he : e.1 = key
      · subst he
        have : hasK (prsOf (e :: C)) e.1 = true := by simp [hasK, prsOf]
        rw [this, if_pos rfl]
        exact ⟨by simp, e, C, rfl, rfl, h4⟩
      · have h6 : ltB key e.1 = true := not_ltB (h2 e.1 (by simp)) he
        have h7 : ∀ x ∈ e :: C, ltB key x.1 = true := fun x hx => by
          rcases List.mem_cons.1 hx with rfl | hx
          · exact h6
          · exact ltB_trans h6 (h4 x hx)
        have : hasK (prsOf (e :: C)) key = false := by
          unfold hasK
          rw [List.any_eq_false]
          intro x hx
          obtain ⟨y, hy, rfl⟩ := List.mem_map.1 hx
          simpa using (ltB_ne (h7 y hy)).symm
        rw [this, if_neg (by decide)]
        exact ⟨by simp [he], h7⟩
  exact ⟨i, by rw [key2.1], h3, h1', key2.2⟩
theorem kid_find (hlf : n.leaf = false) (hr : rising n.keys) : ∃ i, n.find key = (i, false) ∧ i ≤ n.keys.length ∧ (∀ k ∈ n.keys.take i, ltB key k = false) ∧ (∀ k ∈ n.keys.drop i, ltB key k = true) := by
  obtain ⟨h1, h2, h3⟩ := below_spec (key := key) (rising_iff.1 hr)
  have hpw := rising_iff.1 hr
  unfold Nd.find
  rw [if_neg (by rw [hlf]; decide)]
  generalize below n.keys key = i at *
  generalize n.keys = K at *
  have hpd : (K.drop i).Pairwise fun a b => ltB a b = true := hpw.sublist (List.drop_sublist _ _)
  cases hd : K.drop i with
  | nil =>
    refine ⟨i, by simp, h3, fun k hk => ltB_asymm (h1 k hk), fun k hk => ?_⟩
    rw [hd] at hk; cases hk
  | cons e C =>
    rw [hd] at hpd h2
    obtain ⟨h4, h5⟩ := List.pairwise_cons.1 hpd
    by_cases he : e = key
    · subst he
      have hC : C.takeWhile (fun k => decide (k = e)) = [] := by
        cases C with
        | nil => rfl
        | cons x C => rw [List.takeWhile_cons, if_neg]; simpa using (ltB_ne (h4 x (List.mem_cons_self ..))).symm
      have hlt : i < K.length := by
        rcases Nat.lt_or_ge i K.length with h | h
        · exact h
        · rw [List.drop_eq_nil_of_le h] at hd; cases hd
      rw [List.drop_eq_getElem_cons hlt] at hd
      injection hd with hd1 hd2
      refine ⟨i + 1, by rw [List.takeWhile_cons, if_pos (by simp), hC]; rfl, hlt, fun k hk => ?_, fun k hk => ?_⟩
      · rw [List.take_succ_eq_append_getElem hlt] at hk
        rcases List.mem_append.1 hk with hk | hk
        · exact ltB_asymm (h1 k hk)
        · rw [List.mem_singleton.1 hk, hd1]; exact ltB_irrefl _
      · rw [hd2] at hk
        exact h4 k hk
    · have h6 : ltB key e = true := not_ltB (h2 e (by simp)) he
      refine ⟨i, by rw [List.takeWhile_cons, if_neg (by simpa using he)]; rfl, h3, fun k hk => ltB_asymm (h1 k hk), fun k hk => ?_⟩
      rw [hd] at hk
      rcases List.mem_cons.1 hk with rfl | hk
      · exact h6
      · exact ltB_trans h6 (h4 k hk)

def outA (P : Nd → Prop) (h : Nat) (m : Md) (l : List Pr) : PA := match m.other with
  | none => trA P h m.page l
  | some o => sx fun x : List Pr × List Pr => sta [fct (l = x.1 ++ x.2 ∧ wi none (some m.key) x.1 ∧ wi (some m.key) none x.2 ∧ m.size = 256), trA full h m.page x.1, trA full h o x.2]
theorem tr_mono {P Q : Nd → Prop} (hq : ∀ m, P m → Q m) (a : PS E KK (trA P h page l :: F) s) : PS E KK (trA Q h page l :: F) s := by
  obtain ⟨m, h1, h2, h3⟩ := tr_ps.1 a
  exact tr_ps.2 ⟨m, h1, hq m h2, h3⟩
theorem out_two {P : Nd → Prop} {m : Md} {o : Nat} (ho : m.other = some o) : PS E KK (outA P h m l :: F) s ↔ ∃ l1 l2, l = l1 ++ l2 ∧ wi none (some m.key) l1 ∧ wi (some m.key) none l2 ∧ m.size = 256 ∧ PS E KK (trA full h m.page l1 :: trA full h o l2 :: F) s := by
  unfold outA
  rw [ho]
  dsimp only []
  rw [PS.sx_iff]
  constructor
  · rintro ⟨⟨l1, l2⟩, a⟩
    obtain ⟨⟨h1, h2, h3, h4⟩, a⟩ := PS.fct_iff.1 (PS.sta_iff.1 a)
    exact ⟨l1, l2, h1, h2, h3, h4, a⟩
  · rintro ⟨l1, l2, h1, h2, h3, h4, a⟩
    exact ⟨(l1, l2), PS.sta_iff.2 (PS.fct_iff.2 ⟨⟨h1, h2, h3, h4⟩, a⟩)⟩
theorem out_one {P : Nd → Prop} {m : Md} (ho : m.other = none) : PS E KK (outA P h m l :: F) s ↔ PS E KK (trA P h m.page l :: F) s := by
  unfold outA
  rw [ho]
theorem res_out {P : Nd → Prop} {m : Md} (a : PS E KK (resA h m n l :: F) s) (hP : n.right → m.size = n.size → P n) : PS E KK (outA P h m l :: F) s := by
  cases ho : m.other with
  | none =>
    unfold resA at a
    rw [ho] at a
    obtain ⟨⟨h1, h2⟩, a⟩ := PS.fct_iff.1 (PS.sta_iff.1 a)
    exact (out_one ho).2 (tr_ps.2 ⟨n, h1, hP h1 h2, a⟩)
  | some o =>
    unfold resA at a
    rw [ho] at a
    unfold outA
    rw [ho]
    exact a
theorem level_gets {low : Bool} (a : PS E KK (pg page n.page :: F) s) (hr : n.right) (hl : n.leaf = low) : Gets E (levelM E page low) s n := by
  refine Gets.bind (get_gets a) ?_
  rw [readN_page hr]
  dsimp only []
  rw [if_pos hl]
  exact Gets.pure
theorem node_gets (a : PS E KK (pg page n.page :: F) s) (hr : n.right) : Gets E (nodeM E page) s n := by
  refine Gets.bind (get_gets a) ?_
  rw [readN_page hr]
  exact Gets.pure
theorem kidA_mid {A C : List (Nat × List Pr)} {x : Nat × List Pr} : PS E KK (kidA h (A ++ x :: C) ++ F) s ↔ PS E KK (trA full h x.1 x.2 :: (kidA h A ++ (kidA h C ++ F))) s := by
  unfold kidA
  rw [List.map_append, List.map_cons, List.append_assoc, List.cons_append]
  exact PS.mid
theorem fold_kids {A C : List (Nat × List Pr)} {p : Nat} {lx : List Pr} {K : List Bs} (hsp : seps K (A.map (·.2) ++ lx :: C.map (·.2)) none none) (a : Al (trA full h p lx :: (kidA h A ++ (kidA h C ++ F))) hp) : Al (ndA (h + 1) ⟨false, K, [], A.map (·.1) ++ p :: C.map (·.1)⟩ (flat A ++ lx ++ flat C) :: F) hp := by
  refine kids_iff.2 ⟨A ++ (p, lx) :: C, by simp, by simp [flat], by simpa using hsp, ?_⟩
  unfold kidA at a ⊢
  rw [List.map_append, List.map_cons, List.append_assoc, List.cons_append]
  exact Al.mid.2 a
theorem fold_kids2 {A C : List (Nat × List Pr)} {p q : Nat} {lx ly : List Pr} {K : List Bs} (hsp : seps K (A.map (·.2) ++ lx :: ly :: C.map (·.2)) none none) (a : Al (trA full h p lx :: trA full h q ly :: (kidA h A ++ (kidA h C ++ F))) hp) : Al (ndA (h + 1) ⟨false, K, [], A.map (·.1) ++ p :: q :: C.map (·.1)⟩ (flat A ++ (lx ++ ly) ++ flat C) :: F) hp := by
  refine kids_iff.2 ⟨A ++ (p, lx) :: (q, ly) :: C, by simp, by simp [flat], by simpa using hsp, ?_⟩
  unfold kidA at a ⊢
  rw [List.map_append, List.map_cons, List.map_cons, List.append_assoc, List.cons_append, List.cons_append]
  exact Al.mid.2 (a.cons_imp fun k hk => Al.mid.2 hk)
theorem unfold_kids {ks : List (Nat × List Pr)} {A C : List (Nat × List Pr)} {p : Nat} {lx : List Pr} (e : ks = A ++ (p, lx) :: C) (a : Al (kidA h ks ++ F) hp) : Al (trA full h p lx :: (kidA h A ++ (kidA h C ++ F))) hp := by
  subst e
  unfold kidA at a ⊢
  rw [List.map_append, List.map_cons, List.append_assoc, List.cons_append] at a
  exact Al.mid.1 a
theorem renew_ok {A C : List (Nat × List Pr)} {KA KC : List Bs} {p : Nat} {lx : List Pr} {m1 m2 : Option Bs} {m : Md} {i : Nat} {P : Nat → Nd → Prop} (hP : ∀ k n, full n → P k n) (hr : n.right) (hn : n = ⟨false, KA ++ KC, [], A.map (·.1) ++ p :: C.map (·.1)⟩) (hf : full n) (hA : A.length = KA.length) (hi : i = KA.length)
    (h1 : pre KA (A.map (·.2)) none m1) (h2 : suf KC (C.map (·.2)) m2 none) (hw : wi m1 m2 lx) (a : PS E KK (pg page n.page :: outA full h m lx :: (kidA h A ++ (kidA h C ++ F))) s) :
    Ok (renewM E page n i m) s fun r s' => PS E KK (outA (P r.size) (h + 1) r (flat A ++ lx ++ flat C) :: F) s' := by
  have hkl : (A.map (·.1)).length = i := by rw [List.length_map, hA, hi]
  have hkids : n.kids = A.map (·.1) ++ p :: C.map (·.1) := by rw [hn]
  have hkeys : n.keys = KA ++ KC := by rw [hn]
  have hget : n.kids.getD i 0 = p := by
    rw [hkids, List.getD_eq_getElem?_getD, List.getElem?_append_right (by omega), hkl, Nat.sub_self]; rfl
  have hset : n.kids.set i m.page = A.map (·.1) ++ m.page :: C.map (·.1) := by
    rw [hkids, List.set_append_right _ _ (by omega), hkl, Nat.sub_self]; rfl
  unfold renewM
  rw [hget]
  dsimp only []
  refine Ok.ite (fun hc => Ok.pure ?_) fun hc => ?_
  · obtain ⟨hp1, ho⟩ := hc
    have a2 := a.pickF 2 [1, 0] rfl rfl
    rw [out_one ho, ← hp1] at a2
    rw [out_one rfl]
    refine tr_ps.2 ⟨n, hr, hP _ n hf, ?_⟩
    have hsp : seps (KA ++ KC) (A.map (·.2) ++ lx :: C.map (·.2)) none none := (seps_mid (by rw [List.length_map, hA])).2 ⟨m1, m2, h1, hw, h2⟩
    have a3 := (a2.pickF 2 [1, 0] rfl rfl).under fun k hk => fold_kids hsp hk
    rw [← hn] at a3
    exact a3
  · have hins : ∀ o, (n.kids.set i m.page).insertIdx (i + 1) o = A.map (·.1) ++ m.page :: o :: C.map (·.1) := fun o => by
      rw [hset, show A.map (·.1) ++ m.page :: C.map (·.1) = (A.map (·.1) ++ [m.page]) ++ C.map (·.1) by simp, ins_mid (by simp; omega)]; simp
    have hki : n.keys.insertIdx i m.key = KA ++ m.key :: KC := by
      rw [hkeys, ins_mid hi]
    cases ho : m.other with
    | none =>
      dsimp only []
      rw [hset]
      have a2 := (a.pickF 2 [1, 0] rfl rfl)
      rw [out_one ho] at a2
      have hsp : seps (KA ++ KC) (A.map (·.2) ++ lx :: C.map (·.2)) none none := (seps_mid (by rw [List.length_map, hA])).2 ⟨m1, m2, h1, hw, h2⟩
      have a3 := (a2.pickF 2 [1, 0] rfl rfl).under fun k hk => fold_kids hsp hk
      have e : ({ n with kids := A.map (·.1) ++ m.page :: C.map (·.1) } : Nd) = ⟨false, KA ++ KC, [], A.map (·.1) ++ m.page :: C.map (·.1)⟩ := by rw [hn]
      rw [e]
      refine (save_ok a3).mono fun r s' h' => res_out h' fun _ _ => hP _ _ ?_
      unfold full at hf ⊢
      rw [hkeys] at hf
      exact hf
    | some o =>
      dsimp only []
      rw [hins, hki]
      have a2 := (a.pickF 2 [1, 0] rfl rfl)
      rw [out_two ho] at a2
      obtain ⟨x1, x2, rfl, hw1, hw2, _, a2⟩ := a2
      obtain ⟨hwa, hwb⟩ := wi.app.1 hw
      have hsp : seps (KA ++ m.key :: KC) (A.map (·.2) ++ x1 :: x2 :: C.map (·.2)) none none := (seps_mid (by rw [List.length_map, hA])).2 ⟨m1, some m.key, h1, fun x hx => ⟨(hwa x hx).1, (hw1 x hx).2⟩, rfl, m2, fun x hx => ⟨(hw2 x hx).1, (hwb x hx).2⟩, h2⟩
      have a3 := (a2.pickF 3 [2, 0, 1] rfl rfl).under fun k hk => fold_kids2 hsp hk
      have e : ({ n with keys := KA ++ m.key :: KC, kids := A.map (·.1) ++ m.page :: o :: C.map (·.1) } : Nd) = ⟨false, KA ++ m.key :: KC, [], A.map (·.1) ++ m.page :: o :: C.map (·.1)⟩ := by rw [hn]
      rw [e]
      refine (save_ok a3).mono fun r s' h' => res_out h' fun _ _ => hP _ _ ?_
      unfold full
      simp
theorem kid_open {ks : List (Nat × List Pr)} (hr : n.right) (hn : n = ⟨false, n.keys, [], ks.map (·.1)⟩) (hsp : seps n.keys (ks.map (·.2)) none none) :
    ∃ (i : Nat) (A C : List (Nat × List Pr)) (p : Nat) (lx : List Pr) (KA KC : List Bs) (m1 m2 : Option Bs), n.find key = (i, false) ∧ ks = A ++ (p, lx) :: C ∧ n.keys = KA ++ KC ∧ A.length = KA.length ∧ i = KA.length ∧ pre KA (A.map (·.2)) none m1 ∧ suf KC (C.map (·.2)) m2 none ∧ wi m1 m2 lx ∧
      (∀ x, m1 = some x → ltB key x = false) ∧ (∀ x, m2 = some x → ltB key x = true) ∧ (∀ x ∈ flat A, ltB x.1 key = true) ∧ ∀ x ∈ flat C, ltB key x.1 = true := by
  obtain ⟨i, hfd, hi, hlo, hhi⟩ := kid_find (key := key) (by rw [hn]) hr.1.2.1
  have hl := seps_len hsp
  rw [List.length_map] at hl
  have hlt : i < ks.length := by omega
  have hks : ks = ks.take i ++ ks[i] :: ks.drop (i + 1) := by
    have := List.take_append_drop i ks
    rw [List.drop_eq_getElem_cons hlt] at this
    exact this.symm
  have hK : n.keys = n.keys.take i ++ n.keys.drop i := (List.take_append_drop _ _).symm
  have hsp2 := hsp
  rw [hks, hK, List.map_append, List.map_cons, seps_mid (by simp; omega)] at hsp2
  obtain ⟨m1, m2, g1, g2, g3⟩ := hsp2
  refine ⟨i, ks.take i, ks.drop (i + 1), ks[i].1, ks[i].2, n.keys.take i, n.keys.drop i, m1, m2, hfd, hks, hK, by simp; omega, by simp; omega, g1, g3, g2, fun x hx => ?_, fun x hx => ?_, pre_lt g1 hlo, suf_gt g3 hhi⟩
  · rcases pre_last g1 with h' | ⟨k, hk, h'⟩
    · rw [h'] at hx; cases hx
    · rw [h'] at hx; cases hx; exact hlo _ hk
  · rcases suf_head g3 with h' | ⟨k, hk, h'⟩
    · rw [h'] at hx; cases hx
    · rw [h'] at hx; cases hx; exact hhi _ hk
theorem leafN_full (A : List (Bs × Bs × Bs)) (e : Bs × Bs × Bs) (C : List (Bs × Bs × Bs)) : full (leafN (A ++ e :: C)) := by
  unfold full leafN; simp
theorem insert_ok : ∀ (h : Nat) {page : Nat} {l : List Pr} {F : List PA} {s : St}, PS E KK (trA full h page l :: cellA cell v :: F) s → Ok (insertM E (h + 1) page key cell) s fun x s' => x.2 = !(hasK l key) ∧ PS E KK (outA full h x.1 (insL l key v) :: F) s' := by
  intro h
  induction h with
  | zero =>
    intro page l F s a
    obtain ⟨n, hr, hf, a⟩ := tr_ps.1 a
    obtain ⟨es, hn, rfl, a1⟩ := leaf_ps.1 (a.pickF 2 [1, 0] rfl rfl)
    unfold insertM
    refine Ok.bind ((level_gets a hr (by rw [hn]; rfl)).ok ?_)
    obtain ⟨i, hfd, hi, hlo, hhi⟩ := leaf_find (key := key) hn hr.1.2.1
    have hes : es = es.take i ++ es.drop i := (List.take_append_drop _ _).symm
    have hkeys : n.keys = es.map (·.1) := by rw [hn]; rfl
    have hvals : n.vals = es.map (·.2.1) := by rw [hn]; rfl
    have hlp : ∀ x ∈ prsOf (es.take i), ltB x.1 key = true := fun x hx => by obtain ⟨e, he, rfl⟩ := List.mem_map.1 hx; exact hlo e he
    dsimp only []
    rw [hfd]
    dsimp only []
    rw [if_pos rfl]
    cases hh : hasK (prsOf es) key with
    | true =>
      rw [hh, if_pos rfl] at hhi
      obtain ⟨e, C, hd, he, hC⟩ := hhi
      rw [hd] at hes
      have hil : (es.take i).length = i := by rw [List.length_take]; omega
      have hv1 : n.vals.getD i [] = e.2.1 := by
        rw [hvals, List.getD_eq_getElem?_getD, List.getElem?_map, ← List.head?_drop, hd]; rfl
      rw [if_pos rfl, if_pos rfl, hv1]
      have a2 : PS E KK (cellA e.2.1 e.2.2 :: (pg page n.page :: cellA cell v :: (entA (es.take i) ++ (entA C ++ F)))) s := by
        rw [hes] at a1
        have e1 : entA (es.take i ++ e :: C) = entA (es.take i) ++ cellA e.2.1 e.2.2 :: entA C := by simp [entA]
        rw [e1, List.append_assoc] at a1
        have a3 := PS.mid.1 a1
        have a4 : PS E KK (cellA e.2.1 e.2.2 :: ((entA (es.take i) ++ entA C) ++ pg page n.page :: cellA cell v :: F)) s := by
          simpa [List.append_assoc] using a3
        have a5 := a4.under fun k hk => (Al.mid.1 hk).cons_imp fun k hk => Al.mid.1 hk
        simpa [List.append_assoc] using a5
      refine Ok.bind ((lose_ok a2).mono fun _ s1 h1 => Ok.bind ?_)
      have e2 : ({ n with vals := n.vals.set i cell } : Nd) = leafN (es.take i ++ (key, cell, v) :: C) := by
        rw [hn]
        unfold leafN
        dsimp only []
        have e3 : es.map (·.1) = (es.take i ++ (key, cell, v) :: C).map (·.1) := by
          have e5 := congrArg (List.map fun x : Bs × Bs × Bs => x.1) hes
          rw [e5]
          simp [he]
        have e4 : (es.map (·.2.1)).set i cell = (es.take i ++ (key, cell, v) :: C).map (·.2.1) := by
          conv => lhs; rw [hes]
          rw [List.map_append, List.set_append_right _ _ (by rw [List.length_map]; omega), List.length_map, hil, Nat.sub_self]
          simp
        rw [e3, e4]
      rw [e2]
      have hl' : insL (prsOf es) key v = prsOf (es.take i ++ (key, cell, v) :: C) := by
        have : prsOf es = prsOf (es.take i) ++ prsOf [e] ++ prsOf C := (congrArg prsOf hes).trans (by simp [prsOf])
        rw [this, insL_mid hlp (fun x hx => by obtain ⟨y, hy, rfl⟩ := List.mem_map.1 hx; exact hC y hy)]
        simp [prsOf, insL, he, ltB_irrefl]
      have a3 : PS E KK (pg page n.page :: ndA 0 (leafN (es.take i ++ (key, cell, v) :: C)) (prsOf (es.take i ++ (key, cell, v) :: C)) :: F) s1 := h1.under fun k hk => leaf_iff.2 ⟨_, rfl, rfl, by
        have e1 : entA (es.take i ++ (key, cell, v) :: C) = entA (es.take i) ++ cellA cell v :: entA C := by simp [entA]
        rw [e1, List.append_assoc]
        exact Al.mid.2 hk⟩
      refine (save_ok a3).mono fun m s2 h2 => Ok.pure ⟨rfl, ?_⟩
      rw [hl']
      exact res_out h2 fun _ _ => leafN_full _ _ _
    | false =>
      rw [hh, if_neg (by decide)] at hhi
      have hil : (es.take i).length = i := by rw [List.length_take]; omega
      rw [if_neg (by decide), if_neg (by decide)]
      refine Ok.bind (Ok.pure (Ok.bind ?_))
      have e2 : ({ n with keys := n.keys.insertIdx i key, vals := n.vals.insertIdx i cell } : Nd) = leafN (es.take i ++ (key, cell, v) :: es.drop i) := by
        rw [hn]
        unfold leafN
        dsimp only []
        have e3 : ∀ {β : Type} (f : Bs × Bs × Bs → β), (es.map f).insertIdx i (f (key, cell, v)) = (es.take i ++ (key, cell, v) :: es.drop i).map f := fun f => by
          conv => lhs; rw [hes]
          rw [List.map_append, ins_mid (by rw [List.length_map, hil])]
          simp
        rw [← e3 (·.1), ← e3 (·.2.1)]
      rw [e2]
      have hl' : insL (prsOf es) key v = prsOf (es.take i ++ (key, cell, v) :: es.drop i) := by
        have : prsOf es = prsOf (es.take i) ++ [] ++ prsOf (es.drop i) := (congrArg prsOf hes).trans (by simp [prsOf])
        rw [this, insL_mid hlp (fun x hx => by obtain ⟨y, hy, rfl⟩ := List.mem_map.1 hx; exact hhi y hy)]
        simp [prsOf, insL]
      have a3 : PS E KK (pg page n.page :: ndA 0 (leafN (es.take i ++ (key, cell, v) :: es.drop i)) (prsOf (es.take i ++ (key, cell, v) :: es.drop i)) :: F) s := by
        have a4 : PS E KK (pg page n.page :: (entA es ++ cellA cell v :: F)) s := PS.mid.1 a1
        refine a4.under fun k hk => leaf_iff.2 ⟨_, rfl, rfl, ?_⟩
        have e1 : entA (es.take i ++ (key, cell, v) :: es.drop i) = entA (es.take i) ++ cellA cell v :: entA (es.drop i) := by simp [entA]
        have e4 : entA es = entA (es.take i) ++ entA (es.drop i) := by simp only [entA, ← List.map_append, List.take_append_drop]
        rw [e1, List.append_assoc]
        refine Al.mid.2 ?_
        have := Al.mid.1 hk
        rw [e4, List.append_assoc] at this
        exact this
      refine (save_ok a3).mono fun m s2 h2 => Ok.pure ⟨rfl, ?_⟩
      rw [hl']
      exact res_out h2 fun _ _ => leafN_full _ _ _
  | succ h ih =>
    intro page l F s a
    obtain ⟨n, hr, hf, a⟩ := tr_ps.1 a
    obtain ⟨ks, hn, rfl, hsp, a1⟩ := kids_ps.1 (a.pickF 2 [1, 0] rfl rfl)
    unfold insertM
    refine Ok.bind ((level_gets a hr (by rw [hn]; rfl)).ok ?_)
    obtain ⟨i, A, C, p, lx, KA, KC, m1, m2, hfd, hks, hK, hA, hi, h1, h2, hw, hm1, hm2, hlo, hhi⟩ := kid_open (key := key) hr hn hsp
    dsimp only []
    rw [hfd]
    dsimp only []
    rw [if_neg (by omega)]
    have hkids : n.kids = A.map (·.1) ++ p :: C.map (·.1) := by rw [hn, hks]; simp
    have hget : n.kids.getD i 0 = p := by
      rw [hkids, List.getD_eq_getElem?_getD, List.getElem?_append_right (by rw [List.length_map]; omega), List.length_map, show i - A.length = 0 by omega]; rfl
    rw [hget]
    have a2 : PS E KK (trA full h p lx :: cellA cell v :: (pg page n.page :: (kidA h A ++ (kidA h C ++ F)))) s := by
      have a3 : PS E KK (trA full h p lx :: (kidA h A ++ (kidA h C ++ pg page n.page :: cellA cell v :: F))) s := ⟨unfold_kids hks a1.1, a1.2⟩
      have a4 : PS E KK (trA full h p lx :: ((kidA h A ++ kidA h C) ++ pg page n.page :: cellA cell v :: F)) s := by simpa [List.append_assoc] using a3
      have a5 := a4.under fun k hk => (Al.mid.1 hk).cons_imp fun k hk => Al.mid.1 hk
      have a6 := a5.pickF 3 [0, 2, 1] rfl rfl
      simpa [List.append_assoc] using a6
    have hfl : flat ks = flat A ++ lx ++ flat C := by rw [hks]; simp [flat]
    refine Ok.bind ((ih a2).mono ?_)
    rintro ⟨m, fr⟩ s1 ⟨hfr, h3⟩
    refine Ok.bind ((renew_ok (p := p) (A := A) (C := C) (KA := KA) (KC := KC) (P := fun _ => full) (fun _ _ h => h) hr (by rw [hn, hK, hks]; simp) hf hA hi h1 h2 (insL_wi hw hm1 hm2) (h3.pickF 2 [1, 0] rfl rfl)).mono fun r s2 h4 => Ok.pure ⟨?_, ?_⟩)
    · rw [hfl, hasK_mid hlo hhi]; exact hfr
    · rw [hfl, insL_mid hlo hhi]; exact h4
end
end Go.Pa
