/-
  Keys got out of a tree of pages, and taken away | Ranges over functions: what an iterator owes, and what the statement does
-/
import Derived.Test.YtjlofdodiaklaaaGreatYah
import Derived.Test.YtjlofdodiaklaaaGreatYai
import Derived.RangeFuncLeaves
import Derived.RangeFuncOwn
set_option linter.unusedVariables false
set_option linter.unusedSimpArgs false
namespace Go.Pa
open Go.Tr

def lookL (l : List Pr) (k : Bs) : Option Bs := (l.find? fun x => decide (x.1 = k)).map (·.2)
theorem find_none {l : List Pr} {k : Bs} (h : ∀ x ∈ l, x.1 ≠ k) : l.find? (fun x => decide (x.1 = k)) = none := List.find?_eq_none.2 fun x hx => by simpa using h x hx
theorem lookL_mid {A B C : List Pr} {k : Bs} (h1 : ∀ x ∈ A, ltB x.1 k = true) (h2 : ∀ x ∈ C, ltB k x.1 = true) : lookL (A ++ B ++ C) k = lookL B k := by
  unfold lookL
  rw [List.find?_append, List.find?_append, find_none (l := A) fun x hx => ltB_ne (h1 x hx), find_none (l := C) fun x hx => (ltB_ne (h2 x hx)).symm]
  simp
theorem lookL_no {l : List Pr} {k : Bs} (h : hasK l k = false) : lookL l k = none := by
  unfold lookL
  rw [find_none fun x hx => by
    unfold hasK at h
    simpa using List.any_eq_false.1 h x hx]
  rfl
section
variable {E : En} {KK : List Nat} {s s' : St} {page : Nat} {n : Nd} {b b0 key cell v : Bs} {hp : Ph}
theorem get_gets' : ∀ (h : Nat) {page : Nat} {l : List Pr} {F : List PA}, PS E KK (trA full h page l :: F) s → Gets E (getT E (h + 1) page key) s (lookL l key) := by
  intro h
  induction h with
  | zero =>
    intro page l F a
    obtain ⟨n, hr, hf, a⟩ := tr_ps.1 a
    obtain ⟨es, hn, rfl, a1⟩ := leaf_ps.1 (a.pickF 2 [1, 0] rfl rfl)
    unfold getT
    refine Gets.bind (level_gets a hr (by rw [hn]; rfl)) ?_
    obtain ⟨i, hfd, hi, hlo, hhi⟩ := leaf_find (key := key) hn hr.1.2.1
    have hes : es = es.take i ++ es.drop i := (List.take_append_drop _ _).symm
    have hvals : n.vals = es.map (·.2.1) := by rw [hn]; rfl
    dsimp only []
    rw [hfd]
    dsimp only []
    rw [if_pos rfl]
    cases hh : hasK (prsOf es) key with
    | true =>
      rw [hh, if_pos rfl] at hhi
      obtain ⟨e, C, hd, he, hC⟩ := hhi
      rw [hd] at hes
      have hv1 : n.vals.getD i [] = e.2.1 := by
        rw [hvals, List.getD_eq_getElem?_getD, List.getElem?_map, ← List.head?_drop, hd]; rfl
      rw [if_pos rfl, hv1]
      have hlp : ∀ x ∈ prsOf (es.take i), ltB x.1 key = true := fun x hx => by obtain ⟨e, he, rfl⟩ := List.mem_map.1 hx; exact hlo e he
      have hl : lookL (prsOf es) key = some e.2.2 := by
        have : prsOf es = prsOf (es.take i) ++ prsOf [e] ++ prsOf C := (congrArg prsOf hes).trans (by simp [prsOf])
        rw [this, lookL_mid hlp (fun x hx => by obtain ⟨y, hy, rfl⟩ := List.mem_map.1 hx; exact hC y hy)]
        simp [lookL, prsOf, he]
      rw [hl]
      have e1 : entA es = entA (es.take i) ++ cellA e.2.1 e.2.2 :: entA C := (congrArg entA hes).trans (by simp [entA])
      rw [e1, List.append_assoc] at a1
      exact Gets.bind (value_gets (PS.mid.1 a1)) Gets.pure
    | false =>
      rw [if_neg (by decide), lookL_no hh]
      exact Gets.pure
  | succ h ih =>
    intro page l F a
    obtain ⟨n, hr, hf, a⟩ := tr_ps.1 a
    obtain ⟨ks, hn, rfl, hsp, a1⟩ := kids_ps.1 (a.pickF 2 [1, 0] rfl rfl)
    unfold getT
    refine Gets.bind (level_gets a hr (by rw [hn]; rfl)) ?_
    obtain ⟨i, A, C, p, lx, KA, KC, m1, m2, hfd, hks, hK, hA, hi, h1, h2, hw, hm1, hm2, hlo, hhi⟩ := kid_open (key := key) hr hn hsp
    dsimp only []
    rw [hfd]
    dsimp only []
    rw [if_neg (by omega)]
    have hkids : n.kids = A.map (·.1) ++ p :: C.map (·.1) := by rw [hn, hks]; simp
    have hget : n.kids.getD i 0 = p := by
      rw [hkids, List.getD_eq_getElem?_getD, List.getElem?_append_right (by rw [List.length_map]; omega), List.length_map, show i - A.length = 0 by omega]; rfl
    rw [hget]
    have hfl : flat ks = flat A ++ lx ++ flat C := by rw [hks]; simp [flat]
    rw [hfl, lookL_mid hlo hhi]
    exact ih (show PS E KK (trA full h p lx :: _) s from ⟨unfold_kids hks a1.1, a1.2⟩)

theorem join_nd {h : Nat} {na nb : Nd} {kj : Bs} {la lb : List Pr} {F : List PA} (hwa : wi none (some kj) la) (hwb : wi (some kj) none lb) (a : Al (ndA h na la :: ndA h nb lb :: F) hp) : Al (ndA h (na.join nb kj) (la ++ lb) :: F) hp := by
  cases h with
  | zero =>
    obtain ⟨ea, hna, rfl, a0⟩ := leaf_iff.1 a
    obtain ⟨eb, hnb, rfl, a1⟩ := leaf_iff.1 (Al.mid.1 a0)
    refine leaf_iff.2 ⟨ea ++ eb, ?_, by simp [prsOf], ?_⟩
    · unfold Nd.join
      rw [hna, hnb]
      simp [leafN]
    · have e : entA (ea ++ eb) = entA ea ++ entA eb := by simp [entA]
      rw [e]
      have a2 : Al ((entA eb ++ entA ea) ++ F) hp := by rw [List.append_assoc]; exact a1
      exact Al.swap_app (Al.app_imp a2.swap_app fun k hk => hk.swap_app)
  | succ h =>
    obtain ⟨ka, hna, rfl, hsa, a0⟩ := kids_iff.1 a
    obtain ⟨kb, hnb, rfl, hsb, a1⟩ := kids_iff.1 (Al.mid.1 a0)
    refine kids_iff.2 ⟨ka ++ kb, ?_, by simp [flat], ?_, ?_⟩
    · unfold Nd.join
      rw [hna, hnb]
      simp
    · have hla : (ka.map (·.2)).length = na.keys.length + 1 := by have := seps_len hsa; exact this
      have e1 : (na.join nb kj).keys = na.keys ++ kj :: nb.keys := by
        unfold Nd.join; rw [hna]; simp
      rw [e1, List.map_append]
      exact (seps_cut hla).2 ⟨seps_hi hsa fun x hx => (hwa x hx).2, seps_lo hsb fun x hx => (hwb x hx).1⟩
    · have e : kidA h (ka ++ kb) = kidA h ka ++ kidA h kb := by simp [kidA]
      rw [e]
      have a2 : Al ((kidA h kb ++ kidA h ka) ++ F) hp := by rw [List.append_assoc]; exact a1
      exact Al.swap_app (Al.app_imp a2.swap_app fun k hk => hk.swap_app)
theorem join_keys {h : Nat} {na nb : Nd} {kj : Bs} {la lb : List Pr} {F : List PA} (hf : na.keys ≠ [] ∨ nb.keys ≠ []) : (na.join nb kj).keys ≠ [] := by
  unfold Nd.join
  split
  · intro e
    have e := List.append_eq_nil_iff.1 e
    rcases hf with h | h
    · exact h e.1
    · exact h e.2
  · simp
def thin (sz : Nat) (n : Nd) : Prop := n.keys = [] → sz < 80
theorem thin_size {n : Nd} {sz : Nat} (hr : n.right) (h : sz = n.size) (hl : n.leaf = false) : thin sz n := fun hk => by
  obtain ⟨⟨_, _, h3⟩, _⟩ := hr
  rw [hl] at h3
  simp only [Bool.false_eq_true, if_false] at h3
  rw [hk] at h3
  rw [h]
  unfold Nd.size
  rw [hl, hk, h3.2.1]
  simp
theorem seps_two {KA KC : List Bs} {kj : Bs} {A C : List (List Pr)} {la lb : List Pr} (hA : A.length = KA.length) (h : seps (KA ++ kj :: KC) (A ++ la :: lb :: C) none none) :
    ∃ m1 m2, pre KA A none m1 ∧ wi m1 (some kj) la ∧ wi (some kj) m2 lb ∧ suf KC C m2 none := by
  obtain ⟨m1, m, h1, h2, e, m2, h3, h4⟩ := (seps_mid hA).1 h
  cases e
  exact ⟨m1, m2, h1, h2, h3, h4⟩
theorem mend_ok {h page i : Nat} {n : Nd} {A C : List (Nat × List Pr)} {KA KC : List Bs} {kj : Bs} {pa pb : Nat} {na nb : Nd} {la lb : List Pr} {F : List PA} (hn : n = ⟨false, KA ++ kj :: KC, [], A.map (·.1) ++ pa :: pb :: C.map (·.1)⟩) (hri : rising n.keys)
    (hA : A.length = KA.length) (hi : (if i = n.keys.length then i - 1 else i) = KA.length) (hsp : seps (KA ++ kj :: KC) (A.map (·.2) ++ la :: lb :: C.map (·.2)) none none)
    (hra : na.right) (hrb : nb.right) (hf : na.keys ≠ [] ∨ nb.keys ≠ []) (a : PS E KK (pg page b0 :: pg pa na.page :: ndA h na la :: pg pb nb.page :: ndA h nb lb :: (kidA h A ++ (kidA h C ++ F))) s) :
    Ok (mendM E page n i) s fun r s' => PS E KK (outA (thin r.size) (h + 1) r (flat A ++ (la ++ lb) ++ flat C) :: F) s' := by
  have hkl : (A.map (·.1)).length = KA.length := by rw [List.length_map, hA]
  have hkids : n.kids = A.map (·.1) ++ pa :: pb :: C.map (·.1) := by rw [hn]
  have hkeys : n.keys = KA ++ kj :: KC := by rw [hn]
  have hga : n.kids.getD KA.length 0 = pa := by
    rw [hkids, List.getD_eq_getElem?_getD, List.getElem?_append_right (by omega), hkl, Nat.sub_self]; rfl
  have hgb : n.kids.getD (KA.length + 1) 0 = pb := by
    rw [hkids, List.getD_eq_getElem?_getD, List.getElem?_append_right (by omega), hkl, Nat.add_sub_cancel_left]; rfl
  have hgk : n.keys.getD KA.length [] = kj := by
    rw [hkeys, List.getD_eq_getElem?_getD, List.getElem?_append_right (Nat.le_refl _), Nat.sub_self]; rfl
  obtain ⟨m1, m2, g1, g2, g3, g4⟩ := seps_two (by rw [List.length_map, hA]) hsp
  unfold mendM
  dsimp only []
  rw [hi, hga, hgb, hgk]
  refine Ok.bind ((node_gets (a.pickF 5 [1, 0, 2, 3, 4] rfl rfl) hra).ok (Ok.bind ((node_gets (a.pickF 5 [3, 0, 1, 2, 4] rfl rfl) hrb).ok ?_)))
  refine Ok.ite (fun _ => Ok.fail) fun _ => ?_
  have a1 : PS E KK (pg pa na.page :: ndA h (na.join nb kj) (la ++ lb) :: pg pb nb.page :: pg page b0 :: (kidA h A ++ (kidA h C ++ F))) s :=
    (a.pickF 5 [1, 2, 4, 3, 0] rfl rfl).under fun k hk => join_nd (fun x hx => ⟨fun _ h => (by cases h), (g2 x hx).2⟩) (fun x hx => ⟨(g3 x hx).1, fun _ h => (by cases h)⟩) hk
  refine Ok.bind ((save_ok a1).mono fun m s1 h1 => ?_)
  have h1 := res_out (P := full) h1 fun _ _ => join_keys (h := h) (la := la) (lb := lb) (F := F) hf
  refine Ok.bind ((drop_ok (h1.pickF 3 [1, 0, 2] rfl rfl)).mono fun _ s2 h2 => ?_)
  have hset : n.kids.set KA.length m.page = A.map (·.1) ++ m.page :: pb :: C.map (·.1) := by
    rw [hkids, List.set_append_right _ _ (by omega), hkl, Nat.sub_self]; rfl
  rw [hset]
  cases ho : m.other with
  | none =>
    dsimp only []
    rw [out_one ho] at h2
    have hek : n.keys.eraseIdx KA.length = KA ++ KC := by
      rw [hkeys, List.eraseIdx_append_of_length_le (Nat.le_refl _), Nat.sub_self]; rfl
    have hec : (A.map (·.1) ++ m.page :: pb :: C.map (·.1)).eraseIdx (KA.length + 1) = A.map (·.1) ++ m.page :: C.map (·.1) := by
      rw [List.eraseIdx_append_of_length_le (by omega), hkl, Nat.add_sub_cancel_left]; rfl
    rw [hek, hec]
    have e : ({ n with keys := KA ++ KC, kids := A.map (·.1) ++ m.page :: C.map (·.1) } : Nd) = ⟨false, KA ++ KC, [], A.map (·.1) ++ m.page :: C.map (·.1)⟩ := by rw [hn]
    rw [e]
    have hw : wi m1 m2 (la ++ lb) := by
      have hpw := rising_iff.1 hri
      rw [hkeys, List.pairwise_append] at hpw
      obtain ⟨_, hp2, hp3⟩ := hpw
      refine wi.app.2 ⟨g2.mono (leLo.refl _) fun y hy => ?_, g3.mono (fun y hy => ?_) (leHi.refl _)⟩
      · rcases suf_head g4 with h' | ⟨k, hk, h'⟩
        · rw [h'] at hy; cases hy
        · rw [h'] at hy; cases hy
          exact ⟨kj, rfl, ltB_asymm ((List.pairwise_cons.1 hp2).1 _ hk)⟩
      · rcases pre_last g1 with h' | ⟨k, hk, h'⟩
        · rw [h'] at hy; cases hy
        · rw [h'] at hy; cases hy
          exact ⟨kj, rfl, ltB_asymm (hp3 _ hk kj (List.mem_cons_self ..))⟩
    have hsp2 : seps (KA ++ KC) (A.map (·.2) ++ (la ++ lb) :: C.map (·.2)) none none := (seps_mid (by rw [List.length_map, hA])).2 ⟨m1, m2, g1, hw, g4⟩
    have a3 := (h2.pickF 2 [1, 0] rfl rfl).under fun k hk => fold_kids hsp2 hk
    exact (save_ok a3).mono fun r s' h' => res_out h' fun hr hs => thin_size hr hs rfl
  | some o =>
    dsimp only []
    obtain ⟨x1, x2, e0, hw1, hw2, _, a2⟩ := (out_two ho).1 h2
    have hek : n.keys.set KA.length m.key = KA ++ m.key :: KC := by
      rw [hkeys, List.set_append_right _ _ (Nat.le_refl _), Nat.sub_self]; rfl
    have hec : (A.map (·.1) ++ m.page :: pb :: C.map (·.1)).set (KA.length + 1) o = A.map (·.1) ++ m.page :: o :: C.map (·.1) := by
      rw [List.set_append_right _ _ (by omega), hkl, Nat.add_sub_cancel_left]; rfl
    rw [hek, hec]
    have e : ({ n with keys := KA ++ m.key :: KC, kids := A.map (·.1) ++ m.page :: o :: C.map (·.1) } : Nd) = ⟨false, KA ++ m.key :: KC, [], A.map (·.1) ++ m.page :: o :: C.map (·.1)⟩ := by rw [hn]
    rw [e]
    have hw : wi m1 m2 (la ++ lb) := by
      have hpw := rising_iff.1 hri
      rw [hkeys, List.pairwise_append] at hpw
      obtain ⟨_, hp2, hp3⟩ := hpw
      refine wi.app.2 ⟨g2.mono (leLo.refl _) fun y hy => ?_, g3.mono (fun y hy => ?_) (leHi.refl _)⟩
      · rcases suf_head g4 with h' | ⟨k, hk, h'⟩
        · rw [h'] at hy; cases hy
        · rw [h'] at hy; cases hy
          exact ⟨kj, rfl, ltB_asymm ((List.pairwise_cons.1 hp2).1 _ hk)⟩
      · rcases pre_last g1 with h' | ⟨k, hk, h'⟩
        · rw [h'] at hy; cases hy
        · rw [h'] at hy; cases hy
          exact ⟨kj, rfl, ltB_asymm (hp3 _ hk kj (List.mem_cons_self ..))⟩
    rw [e0] at hw
    obtain ⟨hwa, hwb⟩ := wi.app.1 hw
    have hsp2 : seps (KA ++ m.key :: KC) (A.map (·.2) ++ x1 :: x2 :: C.map (·.2)) none none := (seps_mid (by rw [List.length_map, hA])).2 ⟨m1, some m.key, g1, fun x hx => ⟨(hwa x hx).1, (hw1 x hx).2⟩, rfl, m2, fun x hx => ⟨(hw2 x hx).1, (hwb x hx).2⟩, g4⟩
    have a3 := (a2.pickF 3 [2, 0, 1] rfl rfl).under fun k hk => fold_kids2 hsp2 hk
    rw [e0]
    exact (save_ok a3).mono fun r s' h' => res_out h' fun hr hs => thin_size hr hs rfl
theorem last_cons {α : Type} {l : List α} (h : l ≠ []) : ∃ A x, l = A ++ [x] := ⟨l.dropLast, l.getLast h, (List.dropLast_concat_getLast h).symm⟩
theorem remove_ok : ∀ (h : Nat) {page : Nat} {l : List Pr} {F : List PA} {s : St}, PS E KK (trA full h page l :: F) s → Ok (removeM E (h + 1) page key) s fun x s' => x.2 = hasK l key ∧ (if x.2 = true then PS E KK (outA (thin x.1.size) h x.1 (delL l key) :: F) s' else s' = s) := by
  intro h
  induction h with
  | zero =>
    intro page l F s a
    obtain ⟨n, hr, hf, a⟩ := tr_ps.1 a
    obtain ⟨es, hn, rfl, a1⟩ := leaf_ps.1 (a.pickF 2 [1, 0] rfl rfl)
    unfold removeM
    refine Ok.bind ((level_gets a hr (by rw [hn]; rfl)).ok ?_)
    obtain ⟨i, hfd, hi, hlo, hhi⟩ := leaf_find (key := key) hn hr.1.2.1
    have hes : es = es.take i ++ es.drop i := (List.take_append_drop _ _).symm
    have hvals : n.vals = es.map (·.2.1) := by rw [hn]; rfl
    have hlp : ∀ x ∈ prsOf (es.take i), ltB x.1 key = true := fun x hx => by obtain ⟨e, he, rfl⟩ := List.mem_map.1 hx; exact hlo e he
    dsimp only []
    rw [hfd]
    dsimp only []
    rw [if_pos rfl]
    cases hh : hasK (prsOf es) key with
    | true =>
      rw [hh, if_pos rfl] at hhi
      obtain ⟨e, C, hd, he, hC⟩ := hhi
      rw [hd] at hes
      have hil : (es.take i).length = i := by rw [List.length_take]; omega
      have hv1 : n.vals.getD i [] = e.2.1 := by
        rw [hvals, List.getD_eq_getElem?_getD, List.getElem?_map, ← List.head?_drop, hd]; rfl
      rw [if_pos rfl, hv1]
      have a2 : PS E KK (cellA e.2.1 e.2.2 :: (pg page n.page :: (entA (es.take i) ++ (entA C ++ F)))) s := by
        have e1 : entA es = entA (es.take i) ++ cellA e.2.1 e.2.2 :: entA C := (congrArg entA hes).trans (by simp [entA])
        rw [e1, List.append_assoc] at a1
        have a3 := PS.mid.1 a1
        have a4 : PS E KK (cellA e.2.1 e.2.2 :: ((entA (es.take i) ++ entA C) ++ pg page n.page :: F)) s := by
          simpa [List.append_assoc] using a3
        have a5 := a4.under fun k hk => Al.mid.1 hk
        simpa [List.append_assoc] using a5
      refine Ok.bind ((lose_ok a2).mono fun _ s1 h1 => Ok.bind ?_)
      have e2 : ({ n with keys := n.keys.eraseIdx i, vals := n.vals.eraseIdx i } : Nd) = leafN (es.take i ++ C) := by
        rw [hn]
        unfold leafN
        dsimp only []
        have e3 : ∀ {β : Type} (f : Bs × Bs × Bs → β), (es.map f).eraseIdx i = (es.take i ++ C).map f := fun f => by
          have e5 := congrArg (List.map f) hes
          rw [e5, List.map_append, List.eraseIdx_append_of_length_le (by rw [List.length_map]; omega), List.length_map, hil, Nat.sub_self]
          simp
        rw [e3, e3]
      rw [e2]
      have hl' : delL (prsOf es) key = prsOf (es.take i ++ C) := by
        have : prsOf es = prsOf (es.take i) ++ prsOf [e] ++ prsOf C := (congrArg prsOf hes).trans (by simp [prsOf])
        rw [this, delL_mid hlp (fun x hx => by obtain ⟨y, hy, rfl⟩ := List.mem_map.1 hx; exact hC y hy)]
        simp [prsOf, delL, he, ltB_irrefl]
      have a3 : PS E KK (pg page n.page :: ndA 0 (leafN (es.take i ++ C)) (prsOf (es.take i ++ C)) :: F) s1 := h1.under fun k hk => leaf_iff.2 ⟨_, rfl, rfl, by
        have e1 : entA (es.take i ++ C) = entA (es.take i) ++ entA C := by simp [entA]
        rw [e1, List.append_assoc]
        exact hk⟩
      refine (save_ok a3).mono fun m s2 h2 => Ok.pure ⟨rfl, ?_⟩
      rw [if_pos rfl, hl']
      refine res_out h2 fun hr2 hs hk => ?_
      rw [hs]
      have hnil : es.take i ++ C = [] := by
        unfold leafN at hk; exact List.map_eq_nil_iff.1 hk
      rw [hnil]
      decide
    | false =>
      rw [if_neg (by decide)]
      exact Ok.pure ⟨rfl, by rw [if_neg (fun h => by cases h)]⟩
  | succ h ih =>
    intro page l F s a
    obtain ⟨n, hr, hf, a⟩ := tr_ps.1 a
    obtain ⟨ks, hn, rfl, hsp, a1⟩ := kids_ps.1 (a.pickF 2 [1, 0] rfl rfl)
    unfold removeM
    refine Ok.bind ((level_gets a hr (by rw [hn]; rfl)).ok ?_)
    obtain ⟨i, A, C, p, lx, KA, KC, m1, m2, hfd, hks, hK, hA, hi, h1, h2, hw, hm1, hm2, hlo, hhi⟩ := kid_open (key := key) hr hn hsp
    dsimp only []
    rw [hfd]
    dsimp only []
    rw [if_neg (by omega)]
    have hkids : n.kids = A.map (·.1) ++ p :: C.map (·.1) := by rw [hn, hks]; simp
    have hget : n.kids.getD i 0 = p := by
      rw [hkids, List.getD_eq_getElem?_getD, List.getElem?_append_right (by rw [List.length_map]; omega), List.length_map, show i - A.length = 0 by omega]; rfl
    rw [hget]
    have a2 : PS E KK (trA full h p lx :: pg page n.page :: (kidA h A ++ (kidA h C ++ F))) s := by
      have a3 : PS E KK (trA full h p lx :: (kidA h A ++ (kidA h C ++ pg page n.page :: F))) s := ⟨unfold_kids hks a1.1, a1.2⟩
      have a4 : PS E KK (trA full h p lx :: ((kidA h A ++ kidA h C) ++ pg page n.page :: F)) s := by simpa [List.append_assoc] using a3
      have a5 := a4.under fun k hk => Al.mid.1 hk
      simpa [List.append_assoc] using a5
    have hfl : flat ks = flat A ++ lx ++ flat C := by rw [hks]; simp [flat]
    have hn2 : n = ⟨false, KA ++ KC, [], A.map (·.1) ++ p :: C.map (·.1)⟩ := by rw [hn, hK, hks]; simp
    rw [hfl, hasK_mid hlo hhi, delL_mid hlo hhi]
    refine Ok.bind ((ih a2).mono ?_)
    rintro ⟨m, was⟩ s1 ⟨hfr, h3⟩
    dsimp only [] at hfr h3 ⊢
    cases was with
    | false =>
      rw [if_neg (by decide)] at h3
      rw [if_neg (by decide)]
      exact Ok.pure ⟨hfr, by rw [if_neg (fun h => by cases h)]; exact h3⟩
    | true =>
      rw [if_pos rfl] at h3
      rw [if_pos rfl]
      have hwd : wi m1 m2 (delL lx key) := delL_wi hw
      refine Ok.ite (fun hc => Ok.bind ?_) fun hc => Ok.bind ?_
      · obtain ⟨ho, hsz⟩ := hc
        rw [out_one ho] at h3
        obtain ⟨nx, hrx, _, h4⟩ := tr_ps.1 h3
        have hset : n.kids.set i m.page = A.map (·.1) ++ m.page :: C.map (·.1) := by
          rw [hkids, List.set_append_right _ _ (by rw [List.length_map]; omega), List.length_map, show i - A.length = 0 by omega]; rfl
        rw [hset]
        have e1 : ({ n with kids := A.map (·.1) ++ m.page :: C.map (·.1) } : Nd) = ⟨false, KA ++ KC, [], A.map (·.1) ++ m.page :: C.map (·.1)⟩ := by rw [hn2]
        rw [e1]
        have hri : rising (KA ++ KC) := by have := hr.1.2.1; rwa [hK] at this
        have hCl := suf_len h2
        rw [List.length_map] at hCl
        have hsp1 : seps (KA ++ KC) (A.map (·.2) ++ delL lx key :: C.map (·.2)) none none := (seps_mid (by rw [List.length_map, hA])).2 ⟨m1, m2, h1, hwd, h2⟩
        cases KC with
        | cons kj KC =>
          cases C with
          | nil => simp at hCl
          | cons y C =>
            obtain ⟨pb, lb⟩ := y
            have h5 : PS E KK (trA full h pb lb :: pg m.page nx.page :: ndA h nx (delL lx key) :: pg page n.page :: (kidA h A ++ (kidA h C ++ F))) s1 := by
              have e2 : kidA h ((pb, lb) :: C) = trA full h pb lb :: kidA h C := rfl
              rw [e2] at h4
              have h6 : PS E KK ((pg m.page nx.page :: ndA h nx (delL lx key) :: pg page n.page :: kidA h A) ++ trA full h pb lb :: (kidA h C ++ F)) s1 := h4
              exact PS.mid.1 h6
            obtain ⟨nb, hrb, hfb, h6⟩ := tr_ps.1 h5
            have h7 := h6.pickF 5 [4, 2, 3, 0, 1] rfl rfl
            refine (mend_ok (n := ⟨false, KA ++ kj :: KC, [], A.map (·.1) ++ m.page :: pb :: C.map (·.1)⟩) (A := A) (C := C) rfl hri hA (by
              show (if i = (KA ++ kj :: KC).length then i - 1 else i) = _
              rw [if_neg (by simp; omega)]; exact hi) hsp1 hrx hrb (.inr hfb) h7).mono fun r s2 h8 => Ok.pure ⟨hfr, ?_⟩
            rw [if_pos rfl]
            have e3 : flat A ++ delL lx key ++ flat ((pb, lb) :: C) = flat A ++ (delL lx key ++ lb) ++ flat C := by simp [flat]
            rw [e3]
            exact h8
        | nil =>
          have hC0 : C = [] := List.eq_nil_of_length_eq_zero hCl
          subst hC0
          have hKA : KA ≠ [] := by
            intro h0; unfold full at hf; rw [hK, h0] at hf; exact hf rfl
          obtain ⟨KA', kj, rfl⟩ := last_cons hKA
          have hAn : A ≠ [] := by intro h0; rw [h0] at hA; simp at hA
          obtain ⟨A', ⟨pb, lb⟩, rfl⟩ := last_cons hAn
          have hA' : A'.length = KA'.length := by simpa using hA
          have h5 : PS E KK (trA full h pb lb :: pg m.page nx.page :: ndA h nx (delL lx key) :: pg page n.page :: (kidA h A' ++ (kidA h [] ++ F))) s1 := by
            have e2 : kidA h (A' ++ [(pb, lb)]) = kidA h A' ++ [trA full h pb lb] := by simp [kidA]
            rw [e2, List.append_assoc] at h4
            have h6 : PS E KK ((pg m.page nx.page :: ndA h nx (delL lx key) :: pg page n.page :: kidA h A') ++ trA full h pb lb :: (kidA h [] ++ F)) s1 := h4
            exact PS.mid.1 h6
          obtain ⟨nb, hrb, hfb, h6⟩ := tr_ps.1 h5
          have h7 := h6.pickF 5 [4, 0, 1, 2, 3] rfl rfl
          have e4 : (⟨false, KA' ++ [kj] ++ [], [], (A' ++ [(pb, lb)]).map (·.1) ++ m.page :: List.map (fun x : Nat × List Pr => x.1) []⟩ : Nd) = ⟨false, KA' ++ [kj], [], A'.map (·.1) ++ pb :: m.page :: List.map (fun x : Nat × List Pr => x.1) []⟩ := by simp
          rw [e4]
          have hsp3 : seps (KA' ++ [kj]) (A'.map (·.2) ++ lb :: delL lx key :: List.map (fun x : Nat × List Pr => x.2) []) none none := by simpa using hsp1
          have hri3 : rising (KA' ++ [kj]) := by simpa using hri
          refine (mend_ok (n := ⟨false, KA' ++ [kj], [], A'.map (·.1) ++ pb :: m.page :: List.map (fun x : Nat × List Pr => x.1) []⟩) (A := A') (C := []) rfl hri3 hA' (by
              show (if i = (KA' ++ [kj]).length then i - 1 else i) = _
              rw [if_pos hi, hi]; simp) hsp3 hrb hrx (.inl hfb) h7).mono fun r s2 h8 => Ok.pure ⟨hfr, ?_⟩
          rw [if_pos rfl]
          have e3 : flat (A' ++ [(pb, lb)]) ++ delL lx key ++ flat [] = flat A' ++ (lb ++ delL lx key) ++ flat [] := by simp [flat]
          rw [e3]
          exact h8
      · have h4 : PS E KK (outA full h m (delL lx key) :: pg page n.page :: (kidA h A ++ (kidA h C ++ F))) s1 := by
          cases ho : m.other with
          | none =>
            rw [out_one ho] at h3 ⊢
            exact tr_mono (fun x hx hk => hc ⟨ho, hx hk⟩) h3
          | some o =>
            rw [out_two ho] at h3 ⊢
            exact h3
        refine (renew_ok (p := p) (A := A) (C := C) (KA := KA) (KC := KC) (P := fun sz => thin sz) (fun _ _ h1 h2 => absurd h2 h1) hr hn2 hf hA hi h1 h2 hwd (h4.pickF 2 [1, 0] rfl rfl)).mono fun r s2 h8 => Ok.pure ⟨hfr, ?_⟩
        rw [if_pos rfl]
        exact h8
end
end Go.Pa

namespace Go.Sl
open Go

theorem wpInQ_mono {F : Fence} {n : Nat} {P : Program} {o : Oper} {a : Act} {w : World} {K : Act → World → Prop} {Q Q' : Exit → Act → World → Prop} (h : ∀ e a w, Q e a w → Q' e a w)
    (hh : o.wpIn F n P a w K Q) : o.wpIn F n P a w K Q' := by
  unfold Oper.wpIn at *
  refine ⟨hh.1, ?_⟩
  have hh := hh.2
  generalize (o.semAt F.round a.eval).run P w = r at *
  cases r with
  | ok x w' =>
    cases x <;> simp only [Oper.uponIn] at hh ⊢ <;>
      first
        | exact hh
        | exact ⟨hh.1, CallsIn.mono hh.2 (fun e w'' he => by cases e <;> first | exact he | exact h _ _ _ he | (obtain ⟨x, y, z⟩ := he; exact ⟨x, y, h _ _ _ z⟩))⟩
        | exact ⟨hh.1, RoundIn.mono hh.2 (fun e w'' he => by cases e <;> first | exact he | exact h _ _ _ he | (obtain ⟨x, y, z⟩ := he; exact ⟨x, y, h _ _ _ z⟩))⟩
  | halt x w' => cases x <;> simp only [Oper.uponIn] at hh ⊢ <;> first | exact hh | exact h _ _ _ hh
theorem Lst.mono_ {P : Program} {r : Option Nat} {ops : Array Oper} {Q Q' : Exit → Act → World → Prop} {det : Bool} (h : ∀ e a w, Q e a w → Q' e a w) :
    ∀ (n : Nat) {R : List (Nat × Oper)} {obs : Obs} {a : Act} {w : World}, R.length = n → Lst P r ops Q det obs R a w → Lst P r ops Q' det obs R a w
  | 0, R, _, _, _, hn, hh => by
    cases R with
    | nil => exact h _ _ _ hh
    | cons x R => cases hn
  | n + 1, [], _, _, _, hn, hh => by cases hn
  | n + 1, (k, o) :: R, obs, a, w, hn, hh => by
    have hn : R.length = n := by simpa using hn
    refine Lst.cons_iff.2 ?_
    rcases Lst.cons_iff.1 hh with ⟨v, C, hy, hC, hh⟩ | ⟨hw, hd, hh⟩
    · exact .inl ⟨v, C, hy, hC, Lst.mono_ h n hn hh⟩
    · refine .inr ⟨hw, fun hdt => ⟨(hd hdt).1.imp id ?_, (hd hdt).2⟩, fun Q'' hQ'' => ?_⟩
      · rintro ⟨js, g2, hj⟩
        refine ⟨js, g2, fun j hjs => ?_⟩
        obtain ⟨oj, pi2, g1, g3, g4, g5, g6, g7, g8⟩ := hj j hjs
        exact ⟨oj, pi2, g1, g3, g4, g5, g6, g7, fun Q' => Oper.wpIn_mono (fun a' w' hk => ⟨hk.1, Lst.mono_ h n (by rw [sel_length, g5, hn]) hk.2⟩) (g8 Q')⟩
      · cases det with
        | true =>
          cases hQ'' rfl
          exact wpInQ_mono h (Oper.wpIn_mono (fun a' w' hk => ⟨hk.1, Lst.mono_ h n hn hk.2⟩) (hh Q fun _ => rfl))
        | false => exact Oper.wpIn_mono (fun a' w' hk => ⟨hk.1, Lst.mono_ h n hn hk.2⟩) (hh Q'' fun e => by cases e)
theorem Lst.mono {P : Program} {r : Option Nat} {ops : Array Oper} {Q Q' : Exit → Act → World → Prop} {det : Bool} (h : ∀ e a w, Q e a w → Q' e a w) {R : List (Nat × Oper)} {obs : Obs} {a : Act} {w : World} (hh : Lst P r ops Q det obs R a w) : Lst P r ops Q' det obs R a w := Lst.mono_ h _ rfl hh
def noOps : List It → Bool := fun _ => true
theorem post_cut {P : Program} {r : Option Nat} {Q : Po} {K : Act → World → Prop} {k2 : List It} (h : ∀ a w, K a w → post P r Q k2 .normal a w) :
    ∀ (k1 : List It) (e : Exit) (a : Act) (w : World), noOps k1 = true → post P r Q (k1 ++ .goal K :: k2) e a w → post P r Q (k1 ++ k2) e a w := by
  intro k1
  induction k1 with
  | nil =>
    intro e a w _ hp
    cases e <;> first | exact h a w hp | exact hp
  | cons x k1 ih =>
    intro e a w hn hp
    cases x with
    | code c =>
      have ih' := fun e a w => ih e a w rfl
      cases e <;> first | exact wpIn_mono hp ih' | exact ih' _ a w hp
    | blk id =>
      have ih' := fun e a w => ih e a w rfl
      cases e with
      | exit id' =>
        simp only [List.cons_append, post] at hp ⊢
        split
        · rename_i he; rw [if_pos he] at hp; exact ih' _ a w hp
        · rename_i he; rw [if_neg he] at hp; exact ih' _ a w hp
      | _ => exact ih' _ a w hp
    | ops =>
      have ih' := fun e a w => ih e a w rfl
      cases e <;> first | exact Lst.mono ih' hp | exact ih' _ a w hp
    | goal K' =>
      have ih' := fun e a w => ih e a w rfl
      cases e <;> first | exact hp | exact ih' _ a w hp
theorem MC.cutAt {X : Cx} {ds : List Deferred} {k : List It} {fr : Fr} {w : World} (j : Nat) (fr' : Fr) (I : World → Prop) (hn : noOps (k.take j) = true) (h2 : ∀ w', I w' → MC X ds (k.drop j) fr' w')
    (h1 : MC X ds (k.take j ++ .goal (fun a' w' => Fits X.n ds fr' a' ∧ I w') :: k.drop j) fr w) : MC X ds k fr w := fun a hf => by
  have := post_cut (fun a w ⟨h, hI⟩ => h2 w hI a h) (k.take j) .normal a w hn (h1 a hf)
  rwa [List.take_append_drop] at this

section
variable {P : Program} {fr : Fr} {d : Option Tmp} {ty t e : TypeId} {pos : String} {aft : Array Edge} {g : Option (Nat × Bool)} {x hi : Operand} {b o n : Nat} {agg : Bool} {size bytes : Nat} {zero : List Value}
theorem po_sliceArr [h1 : TyU P t (.array n e)] [h2 : TyI P e agg size bytes zero] (hx : ev fr x = some (.pointer (some ⟨b, o, none⟩))) : Pure P ⟨d, .slice t x none none none, ty, pos, aft, g⟩ fr (.slice (some ⟨b, o, none⟩) n n) := fun m ds ac hf w => by
  simp only [execOp, hf.ev hx, Instr.sliceAt, Option.map_none, Instr.sliceBounds]
  simp [TyU.run (P := P) (t := t) w, Instr.sureAddr, TyI.run_size (P := P) (t := e) w, Addr.add]
theorem po_sliceArr_hi [h1 : TyU P t (.array n e)] [h2 : TyI P e agg size bytes zero] {k : IntKind} {j : Nat} (hx : ev fr x = some (.pointer (some ⟨b, o, none⟩))) (hh : ev fr hi = some (.int k (j : Int))) (h : j ≤ n) : Pure P ⟨d, .slice t x none (some hi) none, ty, pos, aft, g⟩ fr (.slice (some ⟨b, o, none⟩) j n) := fun m ds ac hf w => by
  simp only [execOp, hf.ev hx, hf.ev hh, Instr.sliceAt, Option.map_some, Option.map_none, Instr.sliceBounds]
  simp [TyU.run (P := P) (t := t) w, Instr.sureAddr, run_bound (P := P) h, TyI.run_size (P := P) (t := e) w, Addr.add]
end
def Yd (P : Program) (L : Nat) (args : List Value) (w : World) (Post : Value → World → Prop) : Prop :=
  YieldAt (Wd none) 0 P L args.toArray w fun e w' => ∃ v, e = .returned v ∧ Post v w'
def Iter (P : Program) (gf : FuncId) (lb : List Value) (J : Nat → World → Prop) (Jx : World → Prop) (enc : Nat → Value) (N : Nat) : Prop :=
  ∀ L w, (∀ i w, i < N → J i w → Yd P L [enc i] w fun v w' => (v = .bool true ∧ J (i + 1) w') ∨ (v = .bool false ∧ Jx w')) → J 0 w → Ret P gf (.func (.yield L) #[] #[] :: lb) w fun _ w' => J N w' ∨ Jx w'
abbrev mark (D : Nat) : Deferred := { target := .collected D, args := #[] }
abbrev shelf (D : Nat) : Assn := obj D (.deferred (some []))
abbrev lp (L : Nat) (rec : Loop) : Assn := obj L (.loop rec)
section
variable {P : Program} {n : Nat} {fr : Fr} {w : World} {l : List Assn} {k : List It} {ds : List Deferred} {Q : Po} {R : Ending → World → Prop} {L D : Nat} {rec : Loop}
theorem does_yield {d : Option Tmp} {ty : TypeId} {pos : String} {aft : Array Edge} {g : Option (Nat × Bool)} {x : Operand} {args : Array Operand} {ts : Array TypeId} {vs : List Value} {Post : Value → World → Prop} (hx : ev fr x = some (.func (.yield L) #[] #[])) (he : evs fr args.toList = some vs) (h : Yd P L vs w Post) :
    Does P none ⟨d, .call { callee := .value x, args := args, argTypes := ts }, ty, pos, aft, g⟩ fr w Post := fun n ds a hf K Q hK => by
  have e1 : args.map a.eval = vs.toArray := by apply Array.ext'; simpa using hf.evs he
  obtain ⟨fn, tmps, assign, body, hy, hR⟩ := h
  refine ⟨fun _ _ => trivial, ?_⟩
  rw [show Oper.semAt (Wd none).round a.eval _ = execOp a.eval _ from Oper.semAt_eq _ _ _ (noDefer_spec rfl)]
  have hy' : (execOp a.eval (⟨d, .call { callee := .value x, args := args, argTypes := ts }, ty, pos, aft, g⟩ : Oper)).run P w = .ok (.round L fn tmps assign body) w := by
    simp [execOp, resolve, Deferred.ofValue, invoke, hf.ev hx, e1, hy]
  rw [hy', Oper.uponIn_round]
  refine ⟨fun hf => by simp [Wd] at hf, RoundIn.mono hR ?_⟩
  rintro e w' ⟨v, rfl, hp⟩
  exact hK v w' hp

def Begin (P : Program) (L : Nat) (body : Code) (R : Ending → World → Prop) (a : Act) (w : World) : Prop :=
  ∃ w₂, (Instr.beginRound L).run P w = .ok () w₂ ∧ body.wpIn (Wd (some L)) 0 P (roundPost P L R) a w₂
def Rnd (L D : Nat) (rec : Loop) (J1 : List Assn) (cs : List Code) (lx : Code → List Assn) (e : Ending) (w' : World) : Prop :=
  ∃ v, e = .returned v ∧ ((v = .bool true ∧ Sat (lp L rec :: shelf D :: J1) w') ∨ (v = .bool false ∧ ∃ c, c ∈ cs ∧ Sat (lp L { rec with state := .done, pending := some c } :: shelf D :: lx c) w'))
abbrev busy (rec : Loop) : Loop := { rec with state := .busy }
def isReady (rec : Loop) : Prop := rec.state = .ready ∧ rec.pending = none
theorem MC.begin {body : Code} (hr : isReady rec) (hs : Sat (lp L rec :: l) w) (h : ∀ w', Sat (lp L (busy rec) :: l) w' → MC ⟨P, some L, n, roundPost P L R⟩ [] [.code body] fr w') : MC ⟨P, some L, n, Q⟩ [] (.goal (Begin P L body R) :: k) fr w := fun a hf =>
  ⟨_, run_beginRound hs.obj_heap hr.1, wpIn_mono (h _ hs.putObj a hf) fun _ _ _ h => h⟩
theorem MC.more {J1 : List Assn} {cs : List Code} {lx : Code → List Assn} (hr : isReady rec) (hs : Sat (lp L (busy rec) :: shelf D :: J1) w) : MC ⟨P, some L, n, roundPost P L (Rnd L D rec J1 cs lx)⟩ ds [] fr w := fun a hf =>
  ⟨_, _, run_endRound none hs.obj_heap, _, rfl, .inl ⟨rfl, by
    obtain ⟨h1, h2⟩ := hr
    have := hs.putObj (o' := .loop { busy rec with state := .ready, pending := none })
    have e : ({ busy rec with state := .ready, pending := none } : Loop) = rec := by cases rec; simp_all
    rw [e] at this
    have e2 : ({ busy rec with state := if (none : Option Code).isNone then .ready else .done, pending := none } : Loop) = rec := e
    rw [e2]
    exact this⟩⟩
def outOf (id : Nat) : List It → Bool
  | [] => true
  | .blk i :: k => bif Nat.beq i id then false else outOf id k
  | _ :: k => outOf id k
theorem post_exitOut {r : Option Nat} {id : Nat} : ∀ {k : List It} {a : Act} {w : World}, outOf id k = true → Q (.exit id) a w → post P r Q k (.exit id) a w
  | [], _, _, _, h => h
  | .blk i :: k, a, w, h, hq => by
    simp only [outOf] at h
    cases hb : Nat.beq i id with
    | true => rw [hb] at h; cases h
    | false =>
      rw [hb] at h
      have : id ≠ i := by rintro rfl; simp at hb
      simp only [post, this, if_false]
      exact post_exitOut h hq
  | .code _ :: k, a, w, h, hq => post_exitOut (k := k) h hq
  | .ops .. :: k, a, w, h, hq => post_exitOut (k := k) h hq
  | .goal _ :: k, a, w, h, hq => post_exitOut (k := k) h hq
theorem MC.stop {J1 : List Assn} {cs : List Code} {lx : Code → List Assn} {id : Nat} (hk : outOf id k = true) (hc : .exit id ∈ cs) (hs : Sat (lp L (busy rec) :: shelf D :: lx (.exit id)) w) :
    MC ⟨P, some L, n, roundPost P L (Rnd L D rec J1 cs lx)⟩ ds (.code (.exit id) :: k) fr w := fun a hf =>
  wpIn_exit (post_exitOut hk ⟨_, _, run_endRound (some (.exit id)) hs.obj_heap, _, rfl, .inr ⟨rfl, _, hc, hs.putObj⟩⟩)
theorem MC.stopRet {J1 : List Assn} {cs : List Code} {lx : Code → List Assn} (hc : .ret ∈ cs) (hs : Sat (lp L (busy rec) :: shelf D :: lx .ret) w) :
    MC ⟨P, some L, n, roundPost P L (Rnd L D rec J1 cs lx)⟩ ds (.code .ret :: k) fr w := fun a hf =>
  wpIn_ret (by rw [post_ret]; exact ⟨_, _, run_endRound (some .ret) hs.obj_heap, _, rfl, .inr ⟨rfl, _, hc, hs.putObj⟩⟩)

theorem MC.rangeFunc {X : Cx} (hX : X.r = none) {g : Operand} {t : Nat} {assign body : Code} {gf : FuncId} [hF : Fun X.P gf] {lb : List Value} (Jc : Nat → List Assn) (N : Nat) (enc : Nat → Value) (cs : List Code) (lx : Code → List Assn)
    (hg : ev fr g = some (.func (.func gf) #[] lb.toArray)) (ht : okD X.n (some t) = true) (hs : Sat (Jc 0) w)
    (iter : ∀ (pre : List Assn) (Jx : World → Prop), Iter X.P gf lb (fun i w => Sat (pre ++ Jc i) w) Jx enc N)
    (round : ∀ (L D i : Nat) (rec : Loop) (w : World), i < N → isReady rec → Sat (lp L rec :: shelf D :: Jc i) w →
      MC ⟨X.P, some L, X.n, fun _ _ _ => False⟩ [] [.code assign, .goal (Begin X.P L body (Rnd L D rec (Jc (i + 1)) cs lx))] ((t, true, enc i) :: fr) w)
    (hdone : ∀ D w', Sat (shelf D :: Jc N) w' → MC X (mark D :: ds) k fr w')
    (hstop : ∀ c D w', c ∈ cs → Sat (shelf D :: lx c) w' → MC X (mark D :: ds) (.code c :: k) fr w') :
    MC X ds (.code (.rangeFunc g #[t] assign body) :: k) fr w := fun a hf => by
  obtain ⟨P, r, n, Q⟩ := X
  subst hX
  refine wpIn_rangeFunc ?_
  intro fn hfn
  obtain ⟨rec, hrec⟩ : ∃ rec : Loop, rec = { state := .ready, pending := none, fn, tmps := a.tmps, params := #[t], assign, body, defers := w.heap.size } := ⟨_, rfl⟩
  have hready : isReady rec := by rw [hrec]; exact ⟨rfl, rfl⟩
  have hs1 : Sat (shelf w.heap.size :: Jc 0) (w.alloc (.deferred (some []))) := hs.allocObj _
  have hs2 : Sat (lp (w.heap.size + 1) rec :: shelf w.heap.size :: Jc 0) ((w.alloc (.deferred (some []))).alloc (.loop rec)) := by
    have := hs1.allocObj (.loop rec); rwa [World.size_alloc] at this
  refine ⟨w.heap.size + 1, [mark w.heap.size], (w.alloc (.deferred (some []))).alloc (.loop rec), { target := .fn (.func gf) lb.toArray, args := #[.func (.yield (w.heap.size + 1)) #[] #[]] }, (w.alloc (.deferred (some []))).alloc (.loop rec), gf,
    #[.func (.yield (w.heap.size + 1)) #[] #[]] ++ lb.toArray, (w.alloc (.deferred (some []))).alloc (.loop rec), ?_, ?_, fun _ _ => trivial, ?_, fun h => by simp [Wd] at h, ?_⟩
  · rw [hrec]; exact run_enterLoop_outer _ _ _ _ _
  · simp only [resolve, hf.ev hg]
    simp [go_sem]
  · have := hF.h (#[.func (.yield (w.heap.size + 1)) #[] #[]] ++ lb.toArray) ((w.alloc (.deferred (some []))).alloc (.loop rec))
    simp at this
    simp [invoke, go_sem, this]
  · have hit := iter [lp (w.heap.size + 1) rec, shelf w.heap.size] (fun w' => ∃ c, c ∈ cs ∧ Sat (lp (w.heap.size + 1) { rec with state := .done, pending := some c } :: shelf w.heap.size :: lx c) w') (w.heap.size + 1) _ (fun i w1 hi h1 => ?_) hs2
    · have hit' := (callsIn_wd (r := none) (n := 0)).2 hit
      have e : (.func (.yield (w.heap.size + 1)) #[] #[] :: lb : List Value).toArray = #[.func (.yield (w.heap.size + 1)) #[] #[]] ++ lb.toArray := by simp
      rw [e] at hit'
      refine hit'.mono ?_
      rintro _ w2 ⟨v, rfl, h2 | ⟨c, hc, h2⟩⟩
      · have h2 : Sat (lp (w.heap.size + 1) rec :: shelf w.heap.size :: Jc N) w2 := h2
        refine ⟨none, _, by have := run_endLoop (P := P) h2.obj_heap (by rw [hready.1]; simp); rw [hready.2] at this; exact this, ?_⟩
        exact hdone _ _ (h2.putObj).tail _ ⟨hf.size, by simp [hf.defers], hf.slot⟩
      · refine ⟨some c, _, run_endLoop (P := P) h2.obj_heap (by simp), ?_⟩
        exact hstop _ _ _ hc (h2.putObj).tail _ ⟨hf.size, by simp [hf.defers], hf.slot⟩
    · have h1 : Sat (lp (w.heap.size + 1) rec :: shelf w.heap.size :: Jc i) w1 := h1
      have hy := run_yield (P := P) (args := #[enc i]) h1.obj_heap (by rw [hrec]; rfl)
      refine ⟨rec.fn, _, rec.assign, rec.body, hy, ?_⟩
      have hf' := hf.setD (d := some t) ht true (enc i)
      have hm := round (w.heap.size + 1) w.heap.size i rec w1 hi hready h1 { tmps := (a.put (some t) (enc i)).tmps, defers := [] } ⟨hf'.size, rfl, hf'.slot⟩
      have hm' : assign.wpIn (Wd (some (w.heap.size + 1))) 0 P (post P (some (w.heap.size + 1)) (fun _ _ _ => False) [.goal (Begin P (w.heap.size + 1) body (Rnd (w.heap.size + 1) w.heap.size rec (Jc (i + 1)) cs lx))]) { tmps := (a.put (some t) (enc i)).tmps, defers := [] } w1 := hm
      have e : ((#[t].zip #[enc i]).foldl (fun (tmps : Array Value) (x : Nat × Value) => tmps.setIfInBounds x.1 x.2) a.tmps) = (a.put (some t) (enc i)).tmps := by simp [Act.put]
      rw [hrec, ← e] at hm'
      rw [hrec]
      refine roundIn_of_wpIn hfn (wpIn_mono hm' ?_)
      intro e a' w' h
      cases e <;> first | exact h | exact h.elim

theorem Ret.enterM {f : FuncId} {fn : Func} {c : Code} {Post : Value → World → Prop} (args : List (Bool × Value)) (n : Nat) (hf : P.funcs[f]? = some fn) (hb : fn.body = some c) (hn : fn.ntmps = n) (hargs : Nat.ble args.length n = true)
    (h : MC ⟨P, none, n, bodyPostM (Wd none) 0 P fn fun e w' => ∃ v, e = .returned v ∧ Post v w'⟩ [] [.code c] (frOf 0 args) w) : Ret P f (args.map (·.2)) w Post := by
  refine (callsIn_wd (r := none) (n := 0)).1 (callsIn_of_wp_marks hf hb trivial (h _ ⟨?_, rfl, fun t v e => ?_⟩) rfl)
  · have : args.length ≤ n := by simpa using hargs
    subst hn; simp; omega
  · obtain ⟨_, h2⟩ := lk_frOf e
    have h2 : (args.map (·.2))[t]? = some v := by simpa using h2
    have hlt : t < (args.map (·.2)).length := by
      rcases Nat.lt_or_ge t (args.map (·.2)).length with h' | h'
      · exact h'
      · rw [List.getElem?_eq_none h'] at h2; cases h2
    rw [Array.getElem?_append_left (by simpa using hlt)]
    simpa using h2
variable {fn : Func} {Post : Value → World → Prop}
theorem leaves0 {a : Act} {vs : List Value} (hf : Fits n [] fr a) (hr : resOf fr fn.results.toList = some vs) (h : Post (tup vs) w) : LeavesInM (Wd none) 0 P fn a.tmps (fun e w' => ∃ v, e = .returned v ∧ Post v w') a.defers .returning w := by
  rw [hf.defers]
  exact ⟨_, run_results hf hr w, _, rfl, h⟩
theorem leaves1 {a : Act} {vs : List Value} (hf : Fits n [mark D] fr a) (hr : resOf fr fn.results.toList = some vs) (hs : Sat (shelf D :: l) w) (h : ∀ w', Sat l w' → Post (tup vs) w') : LeavesInM (Wd none) 0 P fn a.tmps (fun e w' => ∃ v, e = .returned v ∧ Post v w') a.defers .returning w := by
  rw [hf.defers]
  exact ⟨by simp, .inl ⟨D, _, rfl, run_takeDeferred hs.obj_heap, _, run_results hf hr _, _, rfl, h _ (hs.putObj).tail⟩⟩
theorem MC.retM0 {vs : List Value} (hr : resOf fr fn.results.toList = some vs) (h : Post (tup vs) w) : MC ⟨P, none, n, bodyPostM (Wd none) 0 P fn fun e w' => ∃ v, e = .returned v ∧ Post v w'⟩ [] (.code .ret :: k) fr w := fun _ hf =>
  wpIn_ret (by rw [post_ret]; exact leaves0 hf hr h)
theorem MC.retM {vs : List Value} (hr : resOf fr fn.results.toList = some vs) (hs : Sat (shelf D :: l) w) (h : ∀ w', Sat l w' → Post (tup vs) w') : MC ⟨P, none, n, bodyPostM (Wd none) 0 P fn fun e w' => ∃ v, e = .returned v ∧ Post v w'⟩ [mark D] (.code .ret :: k) fr w := fun _ hf =>
  wpIn_ret (by rw [post_ret]; exact leaves1 hf hr hs h)
end
end Go.Sl
