/-
  The order of values: numbers, texts | Pages: Flush, Done | The order of values: compare | Chains: Pages, taken | The order of values: compare, whole
-/
import Derived.Test.YtkccjgllanpebaaGreatDoorYat
import Derived.Test.YtkccjgllanpebaaGreatDoorYan
set_option maxHeartbeats 1000000
set_option linter.unusedVariables false
set_option linter.unusedSimpArgs false
namespace Go.Proofs.YtkccjgllanpebaaGreatDoor
open Go Go.Sl Go.Tr Go.Kv
attribute [local irreducible] LooksAt
theorem num_true {m e : Int} (h : okN m e) : numB m e = true := by
  unfold numB
  by_cases h0 : m = 0
  · rw [if_pos h0, decide_eq_true (h.1 h0)]
  · rw [if_neg h0]
    obtain ⟨h1, h2, h3, h4⟩ := h.2 h0
    have h5 : m.tmod 10 ≠ 0 := fun hz => h2 (Int.emod_eq_zero_of_dvd (Int.dvd_of_tmod_eq_zero hz))
    rw [decide_eq_true h1, decide_eq_true h3, decide_eq_true h4, decide_eq_true h5]
    rfl
theorem cmpB_lib : ∀ a b : Bs, Lib.compareBytes a b = cmpB a b
  | [], [] => rfl
  | [], _ :: _ => rfl
  | _ :: _, [] => rfl
  | a :: s, b :: t => by
    have ih := cmpB_lib s t
    unfold cmpB at ih ⊢
    unfold Lib.compareBytes
    rw [ltB_cons, ltB_cons, ih]
    by_cases h1 : a < b
    · have h1' : a.toNat < b.toNat := h1
      rw [if_pos h1, if_pos h1', if_pos rfl]
    · have h1' : ¬ a.toNat < b.toNat := h1
      by_cases h2 : b < a
      · have h2' : b.toNat < a.toNat := h2
        rw [if_neg h1, if_pos h2, if_neg h1', if_pos h2', if_neg (by decide), if_pos h2', if_pos rfl]
      · have h2' : ¬ b.toNat < a.toNat := h2
        rw [if_neg h1, if_neg h2, if_neg h1', if_neg h2', if_neg h2', if_neg h1']
theorem strcmp_spec {F : List Assn} {w : World} {a b : Bs} (hs : Sat F w) : Ret Tryz.prog 74 [str a, str b] w fun v w' => v = int (cmpB a b) ∧ w' = w :=
  Calls.mono (Tryz.strings_Compare ⟨a.toArray⟩ ⟨b.toArray⟩ w) fun e w' ⟨he, hw⟩ => ⟨_, he, by rw [← cmpB_lib], hw⟩
theorem intcmp_spec {F : List Assn} {w : World} {a b : Int} (hs : Sat F w) : Ret Tryz.prog 72 [int a, int b] w fun v w' => v = int (cmpI a b) ∧ w' = w :=
  Calls.mono (Tryz.cmp_Compare_int a b w) fun e w' ⟨he, hw⟩ => ⟨_, he, rfl, hw⟩
theorem sign_spec {F : List Assn} {w : World} {m e : Int} (hs : Sat F w) : Ret Tryz.prog 117 [.agg #[int m, int e]] w fun v w' => v = int (signI m) ∧ Sat F w' := by
  refine Ret.enter [(true, .agg #[int m, int e])] _ Tryz.func117 rfl Tryz.ntmps117 rfl ?_
  refine zz ?_
  refine MC.does true (does_box hs rfl rfl) rfl ?_; rintro _ w ⟨b1, rfl, hs⟩
  unfold signI
  rcases Int.lt_or_le m 0 with h | h
  · refine zz ?_
    refine MC.ret rfl ?_
    exact ⟨by rw [if_pos h]; rfl, hs.tail⟩
  · rcases Int.lt_or_le 0 m with h2 | h2
    · refine zz ?_
      refine MC.ret rfl ?_
      exact ⟨by rw [if_neg (by omega), if_pos h2]; rfl, hs.tail⟩
    · refine zz ?_
      refine MC.ret rfl ?_
      exact ⟨by rw [if_neg (by omega), if_neg (by omega)]; rfl, hs.tail⟩
theorem ncompare_spec {F : List Assn} {w : World} {a b : Int} (hs : Sat F w) : Ret Tryz.prog 118 [int a, int b] w fun v w' => v = int (cmpI a b) ∧ w' = w := by
  refine Ret.enter [(true, int a), (true, int b)] _ Tryz.func118 rfl Tryz.ntmps118 rfl ?_
  unfold cmpI
  rcases Int.lt_or_le a b with h | h
  · refine zz ?_
    refine MC.ret rfl ?_
    exact ⟨by rw [if_pos h]; rfl, rfl⟩
  · rcases Int.lt_or_le b a with h2 | h2
    · refine zz ?_
      refine MC.ret rfl ?_
      exact ⟨by rw [if_neg (by omega), if_pos h2]; rfl, rfl⟩
    · refine zz ?_
      refine MC.ret rfl ?_
      exact ⟨by rw [if_neg (by omega), if_neg (by omega)]; rfl, rfl⟩
theorem signI_bd (m : Int) : -1 ≤ signI m ∧ signI m ≤ 1 := by
  unfold signI; split <;> (try split) <;> omega
theorem cmpI_bd (a b : Int) : -1 ≤ cmpI a b ∧ cmpI a b ≤ 1 := by
  rcases cmpI_cases a b with ⟨h, _⟩ | ⟨h, _⟩ | ⟨h, _⟩ <;> omega
theorem cmpB_bd (a b : Bs) : -1 ≤ cmpB a b ∧ cmpB a b ≤ 1 := by
  rcases cmpB_cases a b with ⟨h, _⟩ | ⟨h, _⟩ | ⟨h, _⟩ <;> omega
theorem mul_bd {a b : Int} (ha : -1 ≤ a ∧ a ≤ 1) (hb : -1 ≤ b ∧ b ≤ 1) : -1 ≤ a * b ∧ a * b ≤ 1 := by
  have h1 : a = -1 ∨ a = 0 ∨ a = 1 := by omega
  rcases h1 with rfl | rfl | rfl <;> omega
set_option maxHeartbeats 4000000 in
theorem ncmp_spec {F : List Assn} {w : World} {m e m' e' : Int} (hs : Sat F w) (hT : Tabs F) (hm : I64 m) (he : I64 e) (hm' : I64 m') (he' : I64 e') (h1 : okN m e) (h2 : okN m' e') :
    Ret Tryz.prog 73 [.agg #[int m, int e], .agg #[int m', int e']] w fun v w' => v = .tuple #[int (cmpN m e m' e'), int 0] ∧ Sat F w' := by
  have hr1 := fun {w : World} {G : List Assn} (hs : Sat G w) (hT : Tabs G) => nright_spec (m := m) (e := e) hs hT hm he
  have hr2 := fun {w : World} {G : List Assn} (hs : Sat G w) (hT : Tabs G) => nright_spec (m := m') (e := e') hs hT hm' he'
  rw [num_true h1] at hr1
  rw [num_true h2] at hr2
  obtain ⟨C, hC⟩ : ∃ C, C = cmpN m e m' e' := ⟨_, rfl⟩
  rw [← hC]
  unfold cmpN at hC
  dsimp only [] at hC
  refine Ret.enter [(true, .agg #[int m, int e]), (true, .agg #[int m', int e'])] _ Tryz.func73 rfl Tryz.ntmps73 rfl ?_
  refine zz ?_
  refine MC.does true (does_box hs rfl rfl) rfl ?_; rintro _ w ⟨b2, rfl, hs⟩
  refine zz ?_
  refine MC.does true (does_box hs rfl rfl) rfl ?_; rintro _ w ⟨b3, rfl, hs⟩
  refine zz ?_
  refine MC.la true (la_loadV hs rfl (vs := [int m, int e]) rfl rfl rfl) rfl ?_
  refine zz ?_
  refine zc rfl (hr1 hs hT.up) ?_
  rintro _ w ⟨rfl, hs⟩
  refine zz ?_
  refine MC.la true (la_loadV hs rfl (vs := [int m', int e']) rfl rfl rfl) rfl ?_
  refine zz ?_
  refine zc rfl (hr2 hs hT.up) ?_
  rintro _ w ⟨rfl, hs⟩
  refine zz ?_
  refine MC.draw hs [0, 2, 1, 3, 4, 5] (by rfl) ?_; intro w hs
  refine zd ?_
  refine MC.laD true (la_loadV hs rfl (vs := [int m, int e]) rfl rfl rfl) rfl ?_
  refine zd ?_
  refine MC.laD true (la_loadV hs rfl (vs := [int m', int e']) rfl rfl rfl) rfl ?_
  refine zd ?_
  refine MC.doesK true (does_call rfl (sign_spec hs)) rfl rfl rfl ?_
  rintro _ w ⟨rfl, hs⟩
  refine zh ?_
  refine zd ?_
  refine MC.doesK true (does_call rfl (sign_spec hs)) rfl rfl rfl ?_
  rintro _ w ⟨rfl, hs⟩
  refine zh ?_
  have hb1 := signI_bd m
  have hb2 := signI_bd m'
  by_cases hA : signI m ≠ signI m' ∨ signI m = 0
  · rw [if_pos hA] at hC
    rcases Int.decEq (signI m) (signI m') with hq | hq
    · refine zd ?_
      refine zz ?_
      refine zc rfl (ncompare_spec hs) ?_
      rintro _ _ ⟨rfl, rfl⟩
      refine zz ?_
      refine MC.ret rfl ?_
      exact ⟨by rw [hC]; rfl, hs.tail.tail⟩
    · have h0 : signI m = 0 := hA.resolve_left (not_not_intro hq)
      refine zd ?_
      refine zz ?_
      refine zc rfl (ncompare_spec hs) ?_
      rintro _ _ ⟨rfl, rfl⟩
      refine zz ?_
      refine MC.ret rfl ?_
      exact ⟨by rw [hC]; rfl, hs.tail.tail⟩
  rw [if_neg hA] at hC
  obtain ⟨hq, hn0⟩ : signI m = signI m' ∧ signI m ≠ 0 := ⟨Decidable.not_not.1 fun h => hA (.inl h), fun h => hA (.inr h)⟩
  have hm0 : m ≠ 0 := fun h => hn0 (by rw [h]; rfl)
  have hm0' : m' ≠ 0 := fun h => hn0 (by rw [hq, h]; rfl)
  obtain ⟨o1, o2, o3, o4⟩ := h1.2 hm0
  obtain ⟨p1, p2, p3, p4⟩ := h2.2 hm0'
  have hdl := dec_len o1
  have hdl' := dec_len p1
  have hf1 := fun {w : World} {G : List Assn} (hs : Sat G w) (hT : Tabs G) => fmt_spec (u := sizeN m) hs hT (by omega)
  have hf2 := fun {w : World} {G : List Assn} (hs : Sat G w) (hT : Tabs G) => fmt_spec (u := sizeN m') hs hT (by omega)
  generalize Lib.decDigits (sizeN m) = d at hC hdl hf1
  generalize Lib.decDigits (sizeN m') = d' at hC hdl' hf2
  unfold I64 at he he'
  refine zd ?_
  refine zz ?_
  refine MC.draw hs [0, 4, 5, 7, 11, 12, 1, 2, 3, 6, 8, 9, 10, 13, 14, 15] (by rfl) ?_; intro w hs
  refine zd ?_
  refine MC.laD true (la_loadV hs rfl (vs := [int m, int e]) rfl rfl rfl) rfl ?_
  refine zd ?_
  refine MC.laD true (la_loadV hs rfl (vs := [int m', int e']) rfl rfl rfl) rfl ?_
  refine zd ?_
  refine MC.doesK true (does_call rfl (numsize_spec hs hm)) rfl rfl rfl ?_
  rintro _ w ⟨rfl, hs⟩
  refine zh ?_
  refine zd ?_
  refine MC.doesK true (does_call rfl (hf1 hs hT.up)) rfl rfl rfl ?_
  rintro _ w ⟨rfl, hs⟩
  refine zh ?_
  refine zd ?_
  refine MC.doesK true (does_call rfl (numsize_spec hs hm')) rfl rfl rfl ?_
  rintro _ w ⟨rfl, hs⟩
  refine zh ?_
  refine zd ?_
  refine MC.doesK true (does_call rfl (hf2 hs hT.up)) rfl rfl rfl ?_
  rintro _ w ⟨rfl, hs⟩
  refine zh ?_
  refine zd ?_
  refine zz ?_
  rcases Int.decEq (((d.length : Nat) : Int) + e) (((d'.length : Nat) : Int) + e') with hp | hp
  · rw [if_pos hp] at hC
    have hmb := mul_bd hb1 (cmpI_bd (((d.length : Nat) : Int) + e) (((d'.length : Nat) : Int) + e'))
    refine zz ?_
    refine zc rfl (ncompare_spec hs) ?_
    rintro _ _ ⟨rfl, rfl⟩
    refine zz ?_
    refine MC.ret rfl ?_
    exact ⟨by rw [hC]; rfl, hs.tail.tail⟩
  · rw [if_neg (not_not_intro hp)] at hC
    have hmb := mul_bd hb1 (cmpB_bd d d')
    refine zz ?_
    refine MC.draw hs [0, 1, 4, 2, 3, 5, 6, 7, 8, 9, 10] (by rfl) ?_; intro w hs
    refine zd ?_
    refine MC.laD true (la_loadV hs rfl (vs := [int m, int e]) rfl rfl rfl) rfl ?_
    refine zd ?_
    refine MC.laD true (la_loadV hs rfl (vs := [int m', int e']) rfl rfl rfl) rfl ?_
    refine zd ?_
    refine MC.doesK true (does_call rfl (numsize_spec hs hm)) rfl rfl rfl ?_
    rintro _ w ⟨rfl, hs⟩
    refine zh ?_
    refine zd ?_
    refine MC.doesK true (does_call rfl (hf1 hs hT.up)) rfl rfl rfl ?_
    rintro _ w ⟨rfl, hs⟩
    refine zh ?_
    refine zd ?_
    refine MC.doesK true (does_call rfl (numsize_spec hs hm')) rfl rfl rfl ?_
    rintro _ w ⟨rfl, hs⟩
    refine zh ?_
    refine zd ?_
    refine MC.doesK true (does_call rfl (hf2 hs hT.up)) rfl rfl rfl ?_
    rintro _ w ⟨rfl, hs⟩
    refine zh ?_
    refine zd ?_
    refine MC.doesK true (does_call rfl (strcmp_spec hs)) rfl rfl rfl ?_
    rintro _ _ ⟨rfl, rfl⟩
    refine zh ?_
    refine zd ?_
    refine zz ?_
    refine MC.ret rfl ?_
    exact ⟨by rw [hC]; rfl, hs.tail.tail⟩
end Go.Proofs.YtkccjgllanpebaaGreatDoor

namespace Go.Proofs.YtkccjgllanpebaaGreatDoor
open Go Go.Sl Go.Tr
attribute [local irreducible] LooksAt
section
variable {E : En} {s : St} {D : Dev}
end
section
variable {F : List Assn} {z : Pw} {s : St} {mk : Option (Nat × St)} {w : World}
end
end Go.Proofs.YtkccjgllanpebaaGreatDoor

namespace Go.Proofs.YtkccjgllanpebaaGreatDoor
open Go Go.Sl Go.Tr Go.Kv
attribute [local irreducible] LooksAt
theorem cmpK_cc (a b : Bs) (l m : List Bs) : cmpK (a :: l) (b :: m) = if cmpB a b ≠ 0 then cmpB a b else cmpK l m := rfl
theorem cfS_spec {F : List Assn} {w : World} {ks ks' : List Bs} {vk vk' : Value} (hs : Sat F w) (hk : RdS F 1 vk ks.length (strsV ks)) (hk' : RdS F 1 vk' ks'.length (strsV ks')) (hn : ks.length ≤ 100000) (hn' : ks'.length ≤ 100000) :
    Ret Tryz.prog 121 [vk, vk', .func (.func 74) #[] #[]] w fun v w' => v = int (cmpK ks ks') ∧ Sat F w' := by
  obtain ⟨q, c, rfl, hc, _⟩ := hk.shape
  obtain ⟨q', c', rfl, hc', _⟩ := hk'.shape
  obtain ⟨C, hC⟩ : ∃ C, cmpK ks ks' = C := ⟨_, rfl⟩
  rw [hC]
  refine Ret.enter [(true, .slice q ks.length c), (true, .slice q' ks'.length c'), (true, .func (.func 74) #[] #[])] _ Tryz.func121 rfl Tryz.ntmps121 rfl ?_
  refine zz ?_
  refine MC.cutAtS (σ := Unit) 2 (fun _ => [(0, true, .slice q ks.length c), (1, true, .slice q' ks'.length c')]) (fun _ w => ks.length ≤ ks'.length ∧ C = (if ks.length < ks'.length then -1 else 0) ∧ Sat F w) rfl ?_ ?_
  rotate_left
  · (try dsimp only [List.drop_succ_cons, List.drop_zero, List.take_succ_cons, List.take_zero, List.cons_append, List.nil_append])
    refine MC.loop (σ := Nat) (fun i => [(0, true, .slice q ks.length c), (1, true, .slice q' ks'.length c'), (2, true, .func (.func 74) #[] #[]), (11, true, .slice q ks.length c), (12, true, int ((ks.length : Nat) : Int)), (13, true, int ((i : Nat) : Int))])
      (fun i w => i ≤ ks.length ∧ i ≤ ks'.length ∧ cmpK (ks.drop i) (ks'.drop i) = C ∧ Sat F w) (fun i => ks.length - i) 0 zi ⟨Nat.zero_le _, Nat.zero_le _, hC, hs⟩ ?_
    clear hs hC
    rintro i w ⟨hi, hi', hC, hs⟩
    dsimp only [] at hi hi' hC hs ⊢
    rcases Nat.lt_or_ge i ks.length with hlt | hge
    · obtain ⟨bk, ok, rfl, hrk⟩ := hk.at_ (by omega)
      rw [List.drop_eq_getElem_cons hlt] at hC
      refine zz ?_
      refine MC.la true (la_load1_rd hrk hs (j := ((i : Nat) : Int).toNat * 1) rfl (strsV_at hlt)) rfl ?_
      rcases Nat.lt_or_ge i ks'.length with hlt' | hge'
      · obtain ⟨bk', ok', rfl, hrk'⟩ := hk'.at_ (by omega)
        rw [List.drop_eq_getElem_cons hlt', cmpK_cc] at hC
        refine zz ?_
        refine MC.la true (la_load1_rd hrk' hs (j := ((i : Nat) : Int).toNat * 1) rfl (strsV_at hlt')) rfl ?_
        refine zz ?_
        refine MC.does true (does_callv (f := 74) (first := []) (capt := []) (vs := [str ks[i], str ks'[i]]) rfl rfl (strcmp_spec hs)) rfl ?_
        rintro _ _ ⟨rfl, rfl⟩
        rcases Int.decEq (cmpB ks[i] ks'[i]) 0 with hz | hz
        · rw [if_pos hz] at hC
          rw [hC] at hz ⊢
          refine zz ?_
          refine MC.ret rfl ?_
          exact ⟨rfl, hs⟩
        · rw [if_neg (not_not_intro hz)] at hC
          refine zz ?_
          exact MC.again (i + 1) zi ⟨hlt, hlt', hC, hs⟩ (by show ks.length - (i + 1) < ks.length - i; omega)
      · rw [List.drop_eq_nil_of_le hge'] at hC
        refine zz ?_
        refine MC.ret rfl ?_
        exact ⟨by rw [← hC]; rfl, hs⟩
    · obtain rfl : i = ks.length := by omega
      rw [List.drop_length] at hC
      refine zz ?_
      refine MC.meetS () zi ⟨hi', ?_, hs⟩
      rw [← hC]
      rcases Nat.lt_or_ge ks.length ks'.length with h | h
      · rw [if_pos h, List.drop_eq_getElem_cons h]; rfl
      · rw [if_neg (by omega), List.drop_eq_nil_of_le h]; rfl
  · clear hs
    rintro _ w ⟨hle, hC, hs⟩
    dsimp only [List.drop] at hs ⊢
    rcases Nat.lt_or_ge ks.length ks'.length with h | h
    · rw [if_pos h] at hC
      refine zz ?_
      refine MC.ret rfl ?_
      exact ⟨by rw [hC]; rfl, hs⟩
    · rw [if_neg (by omega)] at hC
      refine zz ?_
      refine MC.ret rfl ?_
      exact ⟨by rw [hC]; rfl, hs⟩
theorem rowsS_spec {F : List Assn} {w : World} {ks ks' : List Bs} {vk vk' : Value} (hs : Sat F w) (hk : RdS F 1 vk ks.length (strsV ks)) (hk' : RdS F 1 vk' ks'.length (strsV ks')) (hn : ks.length ≤ 100000) (hn' : ks'.length ≤ 100000) :
    Ret Tryz.prog 75 [vk, vk', .func (.func 74) #[] #[]] w fun v w' => v = int (cmpK ks ks') ∧ Sat F w' := by
  have h := cfS_spec hs hk hk' hn hn'
  obtain ⟨q, c, rfl, hc, _⟩ := hk.shape
  obtain ⟨q', c', rfl, hc', _⟩ := hk'.shape
  refine Ret.enter [(true, .slice q ks.length c), (true, .slice q' ks'.length c'), (true, .func (.func 74) #[] #[])] _ Tryz.func75 rfl Tryz.ntmps75 rfl ?_
  refine zz ?_
  refine zc rfl (h) ?_
  rintro _ w ⟨rfl, hs⟩
  refine zz ?_
  refine MC.ret rfl ?_
  exact ⟨rfl, hs⟩
set_option maxHeartbeats 4000000 in
theorem cfV_spec {G : List Assn} {w : World} {f : FuncId} [Fun Tryz.prog f] {l l' : List V} {rows rows' : List (List Value)} {vl vl' : Value} (hs : Sat G w) (hl : RdS G 6 vl l.length rows.flatten) (hl' : RdS G 6 vl' l'.length rows'.flatten) (hvl : VL G l rows) (hvl' : VL G l' rows') (hn : l.length ≤ 100000) (hn' : l'.length ≤ 100000)
    (hq : ∀ (i : Nat) (h : i < l.length) (h' : i < l'.length) (r r' : List Value) (w : World) (A B : Assn), VR (A :: B :: G) l[i] r → VR (A :: B :: G) l'[i] r' → Sat (A :: B :: G) w → Ret Tryz.prog f [.agg r.toArray, .agg r'.toArray] w fun u w' => u = int (cmpV l[i] l'[i]) ∧ Sat (A :: B :: G) w') :
    Ret Tryz.prog 122 [vl, vl', .func (.func f) #[] #[]] w fun v w' => v = int (cmpL l l') ∧ Sat G w' := by
  obtain ⟨q, c, rfl, hc, _⟩ := hl.shape
  obtain ⟨q', c', rfl, hc', _⟩ := hl'.shape
  obtain ⟨C, hC⟩ : ∃ C, cmpL l l' = C := ⟨_, rfl⟩
  rw [hC]
  refine Ret.enter [(true, .slice q l.length c), (true, .slice q' l'.length c'), (true, .func (.func f) #[] #[])] _ Tryz.func122 rfl Tryz.ntmps122 rfl ?_
  refine zz ?_
  refine MC.cutAtS (σ := Unit) 2 (fun _ => [(0, true, .slice q l.length c), (1, true, .slice q' l'.length c')]) (fun _ w => l.length ≤ l'.length ∧ C = (if l.length < l'.length then -1 else 0) ∧ Sat G w) rfl ?_ ?_
  rotate_left
  · (try dsimp only [List.drop_succ_cons, List.drop_zero, List.take_succ_cons, List.take_zero, List.cons_append, List.nil_append])
    refine MC.loop (σ := Nat) (fun i => [(0, true, .slice q l.length c), (1, true, .slice q' l'.length c'), (2, true, .func (.func f) #[] #[]), (11, true, .slice q l.length c), (12, true, int ((l.length : Nat) : Int)), (13, true, int ((i : Nat) : Int))])
      (fun i w => i ≤ l.length ∧ i ≤ l'.length ∧ cmpL (l.drop i) (l'.drop i) = C ∧ Sat G w) (fun i => l.length - i) 0 zi ⟨Nat.zero_le _, Nat.zero_le _, hC, hs⟩ ?_
    clear hs hC
    rintro i w ⟨hi, hi', hC, hs⟩
    dsimp only [] at hi hi' hC hs ⊢
    rcases Nat.lt_or_ge i l.length with hlt | hge
    · obtain ⟨bl, ol, rfl, hrl⟩ := hl.at_ (by omega)
      rw [List.drop_eq_getElem_cons hlt] at hC
      have hri : i < rows.length := by rw [hvl.len]; exact hlt
      have hvr := hvl.row i l[i] rows[i] (List.getElem?_eq_getElem hlt) (List.getElem?_eq_getElem hri)
      have hr6 := hvr.len
      have hat := flat_take hvl.six hri
      have hqi := hq i hlt
      obtain ⟨x, hx⟩ : ∃ x, l[i] = x := ⟨_, rfl⟩
      obtain ⟨r, hr⟩ : ∃ r, rows[i] = r := ⟨_, rfl⟩
      rw [hx] at hvr hqi hC
      rw [hr] at hvr hr6 hat
      obtain ⟨k1, m1, e1, t1, l1, ks1⟩ := x
      obtain ⟨ql1, qk1, cl1, ck1, rws, rfl, -⟩ := hvr.open_
      refine zz ?_
      refine MC.la true (la_loadV_rd hrl hs (j := ((i : Nat) : Int).toNat * 6) (vs := [int k1, int m1, int e1, str t1, .slice ql1 l1.length cl1, .slice qk1 ks1.length ck1]) rfl hat hr6 rfl) rfl ?_
      refine MC.does true (does_alloc hs) rfl ?_; rintro _ w ⟨b8, rfl, hs⟩
      refine zz ?_
      refine MC.does true (does_store (vs := [int k1, int m1, int e1, str t1, .slice ql1 l1.length cl1, .slice qk1 ks1.length ck1]) hs rfl rfl rfl rfl (all1 rfl) (by simp)) rfl ?_; intro _ w hs; rw [splice_all (by rfl)] at hs
      rcases Nat.lt_or_ge i l'.length with hlt' | hge'
      · obtain ⟨bl', ol', rfl, hrl'⟩ := hl'.at_ (by omega)
        rw [List.drop_eq_getElem_cons hlt', cmpL_cc] at hC
        have hri' : i < rows'.length := by rw [hvl'.len]; exact hlt'
        have hvr' := hvl'.row i l'[i] rows'[i] (List.getElem?_eq_getElem hlt') (List.getElem?_eq_getElem hri')
        have hr6' := hvr'.len
        have hat' := flat_take hvl'.six hri'
        have hqi' := hqi hlt'
        obtain ⟨x', hx'⟩ : ∃ x, l'[i] = x := ⟨_, rfl⟩
        obtain ⟨r', hr'⟩ : ∃ r, rows'[i] = r := ⟨_, rfl⟩
        rw [hx'] at hvr' hqi' hC
        rw [hr'] at hvr' hr6' hat'
        obtain ⟨k2, m2, e2, t2, l2, ks2⟩ := x'
        obtain ⟨ql2, qk2, cl2, ck2, rws2, rfl, -⟩ := hvr'.open_
        refine zz ?_
        refine MC.la true (la_loadV_rd hrl' hs (j := ((i : Nat) : Int).toNat * 6) (vs := [int k2, int m2, int e2, str t2, .slice ql2 l2.length cl2, .slice qk2 ks2.length ck2]) rfl hat' hr6' rfl) rfl ?_
        refine MC.does true (does_alloc hs) rfl ?_; rintro _ w ⟨b9, rfl, hs⟩
        refine zz ?_
        refine MC.does true (does_store (vs := [int k2, int m2, int e2, str t2, .slice ql2 l2.length cl2, .slice qk2 ks2.length ck2]) hs rfl rfl rfl rfl (all1 rfl) (by simp)) rfl ?_; intro _ w hs; rw [splice_all (by rfl)] at hs
        refine zz ?_
        refine MC.la true (la_loadV hs rfl (vs := [int k1, int m1, int e1, str t1, .slice ql1 l1.length cl1, .slice qk1 ks1.length ck1]) rfl rfl rfl) rfl ?_
        refine zz ?_
        refine MC.la true (la_loadV hs rfl (vs := [int k2, int m2, int e2, str t2, .slice ql2 l2.length cl2, .slice qk2 ks2.length ck2]) rfl rfl rfl) rfl ?_
        refine zz ?_
        refine MC.does true (does_callv (f := f) (first := []) (capt := []) (vs := [.agg #[int k1, int m1, int e1, str t1, .slice ql1 l1.length cl1, .slice qk1 ks1.length ck1], .agg #[int k2, int m2, int e2, str t2, .slice ql2 l2.length cl2, .slice qk2 ks2.length ck2]]) rfl rfl (hqi' _ _ w _ _ hvr.up hvr'.up hs)) rfl ?_
        rintro _ w ⟨rfl, hs⟩
        have hs : Sat G w := hs.tail.tail
        obtain ⟨z, hz0⟩ : ∃ z, cmpV ⟨k1, m1, e1, t1, l1, ks1⟩ ⟨k2, m2, e2, t2, l2, ks2⟩ = z := ⟨_, rfl⟩
        rw [hz0] at hC ⊢
        rcases Int.decEq z 0 with hz | hz
        · rw [if_pos hz] at hC
          subst hC
          refine zz ?_
          refine MC.ret rfl ?_
          exact ⟨rfl, hs⟩
        · rw [if_neg (not_not_intro hz)] at hC
          refine zz ?_
          exact MC.again (i + 1) zi ⟨hlt, hlt', hC, hs⟩ (by show l.length - (i + 1) < l.length - i; omega)
      · rw [List.drop_eq_nil_of_le hge', cmpL_ne] at hC
        refine zz ?_
        refine MC.ret rfl ?_
        exact ⟨by rw [← hC]; rfl, hs.tail⟩
    · obtain rfl : i = l.length := by omega
      rw [List.drop_length] at hC
      refine zz ?_
      refine MC.meetS () zi ⟨hi', ?_, hs⟩
      rw [← hC]
      rcases Nat.lt_or_ge l.length l'.length with h | h
      · rw [if_pos h, List.drop_eq_getElem_cons h, cmpL_en]
      · rw [if_neg (by omega), List.drop_eq_nil_of_le h]; rw [cmpL]
  · clear hs
    rintro _ w ⟨hle, hC, hs⟩
    dsimp only [List.drop] at hs ⊢
    rcases Nat.lt_or_ge l.length l'.length with h | h
    · rw [if_pos h] at hC
      refine zz ?_
      refine MC.ret rfl ?_
      exact ⟨by rw [hC]; rfl, hs⟩
    · rw [if_neg (by omega)] at hC
      refine zz ?_
      refine MC.ret rfl ?_
      exact ⟨by rw [hC]; rfl, hs⟩
end Go.Proofs.YtkccjgllanpebaaGreatDoor

namespace Go.Proofs.YtkccjgllanpebaaGreatDoor
open Go Go.Sl Go.Tr
attribute [local irreducible] LooksAt
theorem br_quo_m1 {P : Program} {t : TypeId} : Bin P .quo t (.int .i64 (-1)) (.int .i64 254) (.int .i64 0) := fun _ _ w => by
  simp [eqGuard, binOp, Op.intDiv, IntKind.wrap, IntKind.signed, IntKind.bits]
theorem pagesOf_pos (n : Nat) : 1 ≤ pagesOf n := by unfold pagesOf; omega
theorem pages_spec {n : Nat} {w : World} (hn : n ≤ 1000000) : Ret Tryz.prog 97 [int ((n : Nat) : Int)] w fun v w' => v = int ((pagesOf n : Nat) : Int) ∧ w' = w := by
  rcases Nat.eq_zero_or_pos n with rfl | h0
  · refine Ret.enter [(true, int 0)] _ Tryz.func97 rfl Tryz.ntmps97 rfl ?_
    refine zz ?_
    repeat first | refine MC.run1 tab 1 rfl rfl (by first | exact True.intro | omega) ?_ | refine zl (za hs rfl) ?_ | refine zq rfl rfl ?_ | refine zp rfl rfl ?_ | refine zf rfl ?_ | refine zt rfl ?_
    refine MC.pure (f := true) (po_bin rfl rfl (br_sub (r := -1) rfl)) rfl ?_
    refine MC.pure (f := true) (po_bin rfl rfl br_quo_m1) rfl ?_
    refine zz ?_
    refine MC.ret rfl ?_
    exact ⟨rfl, rfl⟩
  · refine Ret.enter [(true, int ((n : Nat) : Int))] _ Tryz.func97 rfl Tryz.ntmps97 rfl ?_
    refine zz ?_
    refine MC.ret rfl ?_
    refine ⟨?_, rfl⟩
    have e : (max 1 ((((n : Nat) : Int) - 1) / 254 + 1)) = ((pagesOf n : Nat) : Int) := by unfold pagesOf; omega
    rw [e]; rfl
theorem dropsM_snoc {E : En} {k : Nat} {s1 s2 : St} : ∀ {l : List Nat} {s : St}, dropsM E l s (.ok ()) s1 → dropM E k s1 (.ok ()) s2 → dropsM E (l ++ [k]) s (.ok ()) s2
  | [], s, h, h2 => by
    obtain ⟨_, rfl⟩ := h
    exact .inr ⟨(), s2, h2, rfl, rfl⟩
  | x :: l, s, h, h2 => by
    rcases h with ⟨e, _, he⟩ | ⟨a, s3, h3, h4⟩
    · cases he
    · exact .inr ⟨a, s3, h3, dropsM_snoc h4 h2⟩
theorem drop_fresh {E : En} {s s' : St} {k : Nat} {r : Res Unit} (h : s.kind E k = some 1) (hd : dropM E k s r s') : r = .ok () ∧ ∀ j, j ≠ k → s'.kind E j = s.kind E j := by
  unfold dropM at hd
  rw [if_pos h] at hd
  obtain ⟨h1, rfl⟩ := hd
  refine ⟨h1, fun j hj => ?_⟩
  obtain ⟨i, hi, rfl, _⟩ := fresh_at h
  rw [Nat.add_sub_cancel_left, kind_set hi, if_neg hj]
section
variable {F : List Assn} {z : Pw} {s : St} {mk : Option (Nat × St)} {w : World}
theorem dropAll_spec {be bl bp : Nat} {vl : Value} {l : List Nat} {e : Int} (hs : Sat (blk be [int e] 34 :: blk bl [vl] 67 :: blk bp [ptr z.p] 23 :: sl vl 3 1 l.length (bufV l) :: pgr z s mk :: F) w)
    (hl : ∀ k ∈ l, k ≤ 100000 ∧ s.kind z.E k = some 1) (hnd : l.Nodup) (hn : l.length ≤ 100000) :
    RetD Tryz.prog 128 [ptr be, ptr bl, ptr bp] w fun w' =>
      if e = 0 then Sat (blk be [int e] 34 :: blk bl [vl] 67 :: blk bp [ptr z.p] 23 :: sl vl 3 1 l.length (bufV l) :: pgr z s mk :: F) w'
      else ∃ s', dropsM z.E l s (.ok ()) s' ∧ Sat (blk be [int e] 34 :: blk bl [.slice none 0 0] 67 :: blk bp [ptr z.p] 23 :: pgr z s' mk :: F) w' := by
  refine RetD.enter [(true, ptr be), (true, ptr bl), (true, ptr bp)] _ Tryz.func128 rfl Tryz.ntmps128 rfl ?_
  obtain ⟨_, q, c, rfl, hc⟩ := (hs.tail.tail.tail).sl_len
  by_cases he : e = 0
  · refine zz ?_
    refine MC.end_ rfl ?_
    show if e = 0 then _ else _
    rw [if_pos he]
    exact hs
  · refine zz ?_
    refine MC.loop (σ := Nat × St) (fun x => [(0, true, ptr be), (1, true, ptr bl), (2, true, ptr bp), (7, true, .slice q l.length c), (8, true, int ((l.length : Nat) : Int)), (9, true, int ((x.1 : Nat) : Int))])
      (fun x w => x.1 ≤ l.length ∧ dropsM z.E (l.take x.1) s (.ok ()) x.2 ∧ (∀ k ∈ l.drop x.1, x.2.kind z.E k = some 1) ∧ Sat (blk be [int e] 34 :: blk bl [.slice q l.length c] 67 :: blk bp [ptr z.p] 23 :: sl (.slice q l.length c) 3 1 l.length (bufV l) :: pgr z x.2 mk :: F) w) (fun x => l.length - x.1) (0, s) zi ⟨Nat.zero_le _, ⟨rfl, rfl⟩, fun k hk => (hl k hk).2, hs⟩ ?_
    clear hs
    rintro ⟨i, s1⟩ w ⟨hi, hd, hk1, hs⟩
    dsimp only [] at hi hd hk1 hs ⊢
    rcases Nat.lt_or_ge i l.length with hlt | hge
    · have hr0 := RdS.of_sl hs.tail.tail.tail
      obtain ⟨lb, lo, rfl, hrl⟩ := hr0.at_ (by omega)
      have hyat : (bufV l)[((i : Nat) : Int).toNat * 1]? = some (int ((l[i] : Nat) : Int)) := by
        rw [Int.toNat_natCast, Nat.mul_one]; simp [bufV, hlt]
      have hdr := drop_spec (k := l[i]) (hs.pickF 5 [4, 0, 1, 2, 3] rfl rfl) (hl _ (List.getElem_mem hlt)).1
      have hf := hk1 l[i] (by rw [List.drop_eq_getElem_cons hlt]; exact List.mem_cons_self)
      refine zz ?_
      refine MC.la true (la_load1_rd hrl hs (j := ((i : Nat) : Int).toNat * 1) rfl hyat) rfl ?_
      refine zz ?_
      refine zc rfl (hdr) ?_
      have hdone : ∀ r s2, dropM z.E l[i] s1 r s2 → r = .ok () ∧ dropsM z.E (l.take (i + 1)) s (.ok ()) s2 ∧ ∀ k ∈ l.drop (i + 1), s2.kind z.E k = some 1 := fun r s2 h => by
        obtain ⟨rfl, h2⟩ := drop_fresh hf h
        refine ⟨rfl, by rw [List.take_succ_eq_append_getElem hlt]; exact dropsM_snoc hd h, fun k hk => ?_⟩
        have hne : k ≠ l[i] := by
          obtain ⟨j, hj, rfl⟩ := List.mem_iff_getElem.1 hk
          rw [List.getElem_drop]
          rw [List.length_drop] at hj
          exact fun h => List.pairwise_iff_getElem.1 hnd i (i + 1 + j) hlt (by omega) (by omega) h.symm
        rw [h2 k hne]
        exact hk1 k (by rw [List.drop_eq_getElem_cons hlt]; exact List.mem_cons_of_mem _ hk)
      rintro _ w (⟨_, s2, hm, rfl, hs⟩ | ⟨e', s2, _, hm, rfl, hs⟩)
      · obtain ⟨_, h1, h2⟩ := hdone _ _ hm
        refine zz ?_
        exact MC.again (i + 1, s2) zi ⟨hlt, h1, h2, hs.pickF 5 [1, 2, 3, 4, 0] rfl rfl⟩ (by show l.length - (i + 1) < l.length - i; omega)
      · cases (hdone _ _ hm).1
    · obtain rfl : i = l.length := by omega
      rw [List.take_length] at hd
      refine zz ?_
      refine MC.does true (does_store1 hs rfl rfl rfl (by first | decide | (simp; done) | (simp; omega))) rfl ?_; intro _ w hs
      refine zz ?_
      refine MC.end_ rfl ?_
      show if e = 0 then _ else _
      rw [if_neg he]
      exact ⟨s1, hd, (hs.pickF 4 [3, 0, 1, 2] rfl rfl).tail⟩
theorem takeM_ok {E : En} {s s' : St} {k : Nat} (h : takeM E s (.ok k) s') : ∃ i, ∃ hi : i < s.kinds.length, s.kinds.findIdx? (· == 0) = some i ∧ k = E.frm + i ∧ s.kinds[i] = 0 ∧ s' = ⟨s.kinds.set i 1, upd s.by_ (E.frm + i) zeros⟩ := by
  unfold takeM at h
  split at h
  · cases h.1
  · next i hi =>
    obtain ⟨h1, h2⟩ := take_first hi
    obtain ⟨h3, h4⟩ := h
    cases h3
    exact ⟨i, h1, hi, rfl, h2, h4⟩
theorem takeM_err {E : En} {s s' : St} {e : Int} (h : takeM E s (.err e) s') : s.kinds.findIdx? (· == 0) = none ∧ e = 190 ∧ s' = s := by
  unfold takeM at h
  split at h
  · next hi => obtain ⟨h3, h4⟩ := h; cases h3; exact ⟨hi, rfl, h4⟩
  · cases h.1
def takenP (z : Pw) (s : St) (mk : Option (Nat × St)) (n : Nat) (F : List Assn) (v : Value) (w' : World) : Prop :=
  (∃ l s' vl, takenM z.E n [] s (.ok l) s' ∧ l.length = n ∧ l.Nodup ∧ (∀ k ∈ l, k ≤ 100000 ∧ s'.kind z.E k = some 1) ∧ v = .tuple #[vl, int 0] ∧ Sat (sl vl 3 1 l.length (bufV l) :: pgr z s' mk :: F) w') ∨
  (∃ s', takenM z.E n [] s (.err 190) s' ∧ v = .tuple #[.slice none 0 0, int 190] ∧ Sat (pgr z s' mk :: F) w')
theorem taken_spec {n : Nat} (hs : Sat (pgr z s mk :: F) w) (hn : n ≤ 1000) :
    Ret Tryz.prog 96 [ptr z.p, int ((n : Nat) : Int)] w (takenP z s mk n F) := by
  refine Ret.enterM [(true, ptr z.p), (true, int ((n : Nat) : Int))] _ Tryz.func96 rfl Tryz.ntmps96 rfl ?_
  refine zz ?_
  refine MC.does true (does_box hs rfl rfl) rfl ?_; rintro _ w ⟨bp, rfl, hs⟩
  refine zz ?_
  refine MC.does true (does_alloc hs) rfl ?_; rintro _ w ⟨bl, rfl, hs⟩
  refine zz ?_
  refine MC.does true (does_alloc hs) rfl ?_; rintro _ w ⟨be, rfl, hs⟩
  refine zz ?_
  refine MC.pure (f := true) (po_makeFunc rfl rfl) rfl ?_
  refine MC.defer (f := 128) (first := []) (cap := [ptr be, ptr bl, ptr bp]) (vs := []) rfl rfl rfl ?_
  refine zz ?_
  have hs := hs.sl_nil 3 1
  have hs := hs.pickF 4 [1, 2, 3, 0] rfl rfl
  refine MC.loop (σ := Nat × Value × List Nat × St) (fun x => [(2, true, ptr bp), (4, true, ptr bl), (5, true, ptr be), (9, true, int ((n : Nat) : Int)), (10, true, int ((x.1 : Nat) : Int))])
    (fun x w => x.1 ≤ n ∧ x.2.2.1.length = x.1 ∧ x.2.2.1.Nodup ∧ (∀ k ∈ x.2.2.1, k ≤ 100000 ∧ x.2.2.2.kind z.E k = some 1) ∧ (∀ r s', takenM z.E (n - x.1) x.2.2.1 x.2.2.2 r s' → takenM z.E n [] s r s') ∧
      Sat (blk be [int 0] 34 :: blk bl [x.2.1] 67 :: blk bp [ptr z.p] 23 :: sl x.2.1 3 1 x.2.2.1.length (bufV x.2.2.1) :: pgr z x.2.2.2 mk :: F) w) (fun x => n - x.1) (0, .slice none 0 0, [], s) zi ⟨Nat.zero_le _, rfl, List.nodup_nil, fun k hk => absurd hk List.not_mem_nil, fun r s' h => h, hs⟩ ?_
  clear hs
  rintro ⟨i, vl, l, s1⟩ w ⟨hi, hl, hnd, hk, hm, hs⟩
  dsimp only [] at hi hl hnd hk hm hs ⊢
  obtain ⟨_, q, c, rfl, hc⟩ := (hs.tail.tail.tail).sl_len
  rcases Nat.lt_or_ge i n with hlt | hge
  · have htk := take_spec (hs.pickF 5 [4, 0, 1, 2, 3] rfl rfl)
    obtain ⟨m, hnm⟩ : ∃ m, n - i = m + 1 := ⟨n - i - 1, by omega⟩
    refine zz ?_
    refine zc rfl (htk) ?_
    rintro _ w (⟨k, s2, hd, rfl, hs⟩ | ⟨e, s2, he, hd, rfl, hs⟩)
    · obtain ⟨i', hi', hf, rfl, h0, rfl⟩ := takeM_ok hd
      have hs := hs.pickF 5 [1, 2, 3, 4, 0] rfl rfl
      refine zz ?_
      refine MC.does true (does_buildL hs rfl rfl rfl (all1 rfl) rfl) rfl ?_; rintro _ w ⟨b5, rfl, hs⟩
      refine zz ?_
      refine MC.does true (does_append hs rfl rfl (src_at rfl (all1 rfl)) (by omega) (by omega)) rfl ?_
      intro va w hs
      obtain ⟨_, q2, c2, rfl, hc2⟩ := (hs.tail.tail.tail.tail).sl_len
      refine zz ?_
      refine MC.does true (does_store1 hs rfl rfl rfl (by first | decide | (simp; done) | (simp; omega))) rfl ?_; intro _ w hs
      refine zz ?_
      have e3 : bufV l ++ [int ((z.E.frm + i' : Nat) : Int)] = bufV (l ++ [z.E.frm + i']) := by simp [bufV]
      have hs := hs.tail
      rw [e3] at hs
      have hki : ∀ k ∈ l, k ≠ z.E.frm + i' := fun k hk' e => by
        have := (hk k hk').2
        rw [e, kind_at hi', h0] at this
        cases this
      have hfew : z.E.frm + s1.kinds.length ≤ 100000 := by
        obtain ⟨g, hg, _, _⟩ := pgr_open (hs.pickF 5 [4, 0, 1, 2, 3] rfl rfl)
        have := hg.x.few
        simpa using this
      refine MC.again (i + 1, .slice q2 (l.length + 1) c2, l ++ [z.E.frm + i'], ⟨s1.kinds.set i' 1, upd s1.by_ (z.E.frm + i') zeros⟩) zi ⟨hlt, by simp [hl], ?_, ?_, ?_, ?_⟩ (by show n - (i + 1) < n - i; omega)
      · rw [List.nodup_append]
        exact ⟨hnd, by simp, fun a ha b hb => by rw [List.mem_singleton.1 hb]; exact hki a ha⟩
      · intro k hk'
        rcases List.mem_append.1 hk' with h | h
        · exact ⟨(hk k h).1, by show St.kind z.E ⟨s1.kinds.set i' 1, _⟩ k = _; rw [kind_set hi', if_neg (hki k h)]; exact (hk k h).2⟩
        · rw [List.mem_singleton.1 h]
          exact ⟨by omega, by show St.kind z.E ⟨s1.kinds.set i' 1, _⟩ _ = _; rw [kind_set hi', if_pos rfl]⟩
      · intro r s' h
        refine hm r s' ?_
        rw [hnm]
        unfold takenM
        rw [hf]
        rw [show n - (i + 1) = m by omega] at h
        exact h
      · rw [List.length_append, List.length_singleton]
        exact hs
    · obtain ⟨hf, rfl, e2⟩ := takeM_err hd
      rw [e2] at hs
      have hs := hs.pickF 5 [1, 2, 3, 4, 0] rfl rfl
      refine zz ?_
      refine MC.does true (does_store1 hs rfl rfl rfl (by first | decide | (simp; done) | (simp; omega))) rfl ?_; intro _ w hs
      refine zz ?_
      refine MC.does true (does_store1 hs rfl rfl rfl (by first | decide | (simp; done) | (simp; omega))) rfl ?_; intro _ w hs
      refine zz ?_
      refine MC.retD (args := ([] : List Value) ++ []) (cap := [ptr be, ptr bl, ptr bp]) (dropAll_spec (z := z) (be := be) (bl := bl) (bp := bp) hs hk hnd (by omega)) ?_
      rintro w' hq a hf'
      rw [if_neg (by decide)] at hq
      obtain ⟨s', hd', hs'⟩ := hq
      refine ⟨_, run_results2 hf' rfl hs' rfl rfl, .inr ⟨s', hm _ _ ?_, rfl, hs'.tail.tail.tail⟩⟩
      rw [hnm]
      unfold takenM
      rw [hf]
      exact ⟨rfl, _, hd'⟩
  · obtain rfl : i = n := by omega
    refine zz ?_
    refine MC.does true (does_store1 hs rfl rfl rfl (by first | decide | (simp; done) | (simp; omega))) rfl ?_; intro _ w hs
    refine zz ?_
    refine MC.does true (does_store1 hs rfl rfl rfl (by first | decide | (simp; done) | (simp; omega))) rfl ?_; intro _ w hs
    refine zz ?_
    refine MC.retD (args := ([] : List Value) ++ []) (cap := [ptr be, ptr bl, ptr bp]) (dropAll_spec (z := z) (be := be) (bl := bl) (bp := bp) hs hk hnd (by omega)) ?_
    rintro w' hq a hf'
    rw [if_pos rfl] at hq
    refine ⟨_, run_results2 hf' rfl hq rfl rfl, .inl ⟨l, s1, .slice q l.length c, hm _ _ ?_, hl, hnd, hk, rfl, hq.tail.tail.tail⟩⟩
    rw [Nat.sub_self]
    exact ⟨rfl, rfl⟩
end
end Go.Proofs.YtkccjgllanpebaaGreatDoor

namespace Go.Proofs.YtkccjgllanpebaaGreatDoor
open Go Go.Sl Go.Tr Go.Kv
attribute [local irreducible] LooksAt
theorem VLok {l : List V} (h : okL l) : ∀ (i : Nat) (hi : i < l.length), okV l[i] := fun i hi => okL_mem h (List.getElem_mem hi)
set_option maxHeartbeats 4000000 in
theorem compare_spec : ∀ (a : V) {F : List Assn} {w : World} {b : V} {r r' : List Value} (hs : Sat F w) (hT : Tabs F) (ha : VR F a r) (hb : VR F b r') (hza : sizeV a ≤ 1000) (hzb : sizeV b ≤ 1000) (hoa : okV a) (hob : okV b),
    Ret Tryz.prog 35 [.agg r.toArray, .agg r'.toArray] w fun u w' => u = int (cmpV a b) ∧ Sat F w' := by
  refine V.ind ?_
  intro k m e t l ks ih F w b r r' hs hT ha hb hza hzb hoa hob
  obtain ⟨k', m', e', t', l', ks'⟩ := b
  obtain ⟨ql, qk, cl, ck, rows, rfl, hcl, hck, hl, hvl, hk, ⟨-, -, -, -, hik, him, hie⟩⟩ := ha.open_
  obtain ⟨ql', qk', cl', ck', rows', rfl, hcl', hck', hl', hvl', hk', ⟨-, -, -, -, hik', him', hie'⟩⟩ := hb.open_
  clear ha hb
  have hll := sizeL_len l
  have hll' := sizeL_len l'
  obtain ⟨z2, z3, z4⟩ := sizeV_sub (k := k) (m := m) (e := e) (t := t) (l := l) (ks := ks)
  obtain ⟨z2', z3', z4'⟩ := sizeV_sub (k := k') (m := m') (e := e') (t := t') (l := l') (ks := ks')
  obtain ⟨-, -, -, -, -, a6, -, a8⟩ := hoa
  obtain ⟨-, -, -, -, -, b6, -, b8⟩ := hob
  obtain ⟨C, hC⟩ : ∃ C, cmpV ⟨k, m, e, t, l, ks⟩ ⟨k', m', e', t', l', ks'⟩ = C := ⟨_, rfl⟩
  rw [hC]
  rw [cmpV_mk] at hC
  refine Ret.enter [(true, .agg #[int k, int m, int e, str t, .slice ql l.length cl, .slice qk ks.length ck]), (true, .agg #[int k', int m', int e', str t', .slice ql' l'.length cl', .slice qk' ks'.length ck'])] _ Tryz.func35 rfl Tryz.ntmps35 rfl ?_
  refine zz ?_
  refine MC.does true (does_box hs rfl rfl) rfl ?_; rintro _ w ⟨b2, rfl, hs⟩
  refine zz ?_
  refine MC.does true (does_box hs rfl rfl) rfl ?_; rintro _ w ⟨b3, rfl, hs⟩
  rcases Int.decEq k k' with hkk | hkk
  · rw [if_pos hkk] at hC
    refine zz ?_
    refine zc rfl (intcmp_spec hs) ?_
    rintro _ _ ⟨rfl, rfl⟩
    refine zz ?_
    refine MC.ret rfl ?_
    exact ⟨by rw [← hC]; rfl, hs.tail.tail⟩
  rw [if_neg (not_not_intro hkk)] at hC
  subst hkk
  by_cases h3 : k = 3
  · rw [if_pos h3] at hC
    refine zz ?_
    refine MC.la true (la_loadV hs rfl (vs := [int m, int e]) rfl rfl rfl) rfl ?_
    refine zz ?_
    refine MC.la true (la_loadV hs rfl (vs := [int m', int e']) rfl rfl rfl) rfl ?_
    refine zz ?_
    refine zc rfl (ncmp_spec hs hT.up him hie him' hie' a6 b6) ?_
    rintro _ w ⟨rfl, hs⟩
    refine zz ?_
    refine MC.ret rfl ?_
    exact ⟨by rw [← hC]; rfl, hs.tail.tail⟩
  rw [if_neg h3] at hC
  by_cases h4 : k = 4
  · rw [if_pos h4] at hC
    refine zz ?_
    refine zc rfl (strcmp_spec hs) ?_
    rintro _ _ ⟨rfl, rfl⟩
    refine zz ?_
    refine MC.ret rfl ?_
    exact ⟨by rw [← hC]; rfl, hs.tail.tail⟩
  rw [if_neg h4] at hC
  refine zz ?_
  refine MC.cutAtS (σ := Unit) 1 (fun _ => [(2, true, ptr b2), (3, true, ptr b3)]) (fun _ w => C = cmpL l l' ∧ Sat (blk b3 [int k, int m', int e', str t', .slice ql' l'.length cl', .slice qk' ks'.length ck'] 32 :: blk b2 [int k, int m, int e, str t, .slice ql l.length cl, .slice qk ks.length ck] 32 :: F) w) rfl ?_ ?_
  rotate_left
  · (try dsimp only [List.drop_succ_cons, List.drop_zero, List.take_succ_cons, List.take_zero, List.cons_append, List.nil_append])
    by_cases h6 : k = 6
    · have hrw := rowsS_spec hs hk.up hk'.up (by omega) (by omega)
      obtain ⟨z, hz⟩ : ∃ z, cmpK ks ks' = z := ⟨_, rfl⟩
      rw [hz] at hrw hC
      refine zz ?_
      refine zc rfl (hrw) ?_
      rintro _ w ⟨rfl, hs⟩
      rcases Int.decEq z 0 with hz0 | hz0
      · rw [if_pos ⟨h6, hz0⟩] at hC
        subst hC
        refine zz ?_
        refine MC.ret rfl ?_
        exact ⟨rfl, hs.tail.tail⟩
      · rw [if_neg (fun h => h.2 hz0)] at hC
        refine zz ?_
        exact MC.meetS () zi ⟨hC.symm, hs⟩
    · rw [if_neg (fun h => h6 h.1)] at hC
      refine zz ?_
      exact MC.meetS () zi ⟨hC.symm, hs⟩
  · clear hs hC
    rintro _ w ⟨hC, hs⟩
    dsimp only [List.drop] at hs ⊢
    have hcf := fun {w : World} {G : List Assn} (hs : Sat G w) (hT : Tabs G) (hl : RdS G 6 (.slice ql l.length cl) l.length rows.flatten) (hl' : RdS G 6 (.slice ql' l'.length cl') l'.length rows'.flatten) (hvl : VL G l rows) (hvl' : VL G l' rows') =>
      cfV_spec (f := 35) hs hl hl' hvl hvl' (by omega) (by omega) (fun i h h' r r' w A B hr hr' hs => ih l[i] (List.getElem_mem h) hs hT.up hr hr' (by have := sizeL_mem (List.getElem_mem h); omega) (by have := sizeL_mem (List.getElem_mem h'); omega) (VLok a8 i h) (VLok b8 i h'))
    have hrw : Ret Tryz.prog 76 [.slice ql l.length cl, .slice ql' l'.length cl', .func (.func 35) #[] #[]] w fun u w' => u = int (cmpL l l') ∧ Sat (blk b3 [int k, int m', int e', str t', .slice ql' l'.length cl', .slice qk' ks'.length ck'] 32 :: blk b2 [int k, int m, int e, str t, .slice ql l.length cl, .slice qk ks.length ck] 32 :: F) w' := by
      have h := hcf hs hT.up hl.up hl'.up hvl.up hvl'.up
      refine Ret.enter [(true, .slice ql l.length cl), (true, .slice ql' l'.length cl'), (true, .func (.func 35) #[] #[])] _ Tryz.func76 rfl Tryz.ntmps76 rfl ?_
      refine zz ?_
      refine zc rfl (h) ?_
      rintro _ w ⟨rfl, hs⟩
      refine zz ?_
      refine MC.ret rfl ?_
      exact ⟨rfl, hs⟩
    refine zz ?_
    refine zc rfl (hrw) ?_
    rintro _ w ⟨rfl, hs⟩
    refine zz ?_
    refine MC.ret rfl ?_
    exact ⟨by rw [hC]; rfl, hs.tail.tail⟩
theorem sort1_spec {F : List Assn} {w : World} {a b : V} {r r' : List Value} (hs : Sat F w) (hT : Tabs F) (ha : VR F a r) (hb : VR F b r') (hza : sizeV a ≤ 1000) (hzb : sizeV b ≤ 1000) (hoa : okV a) (hob : okV b) :
    Ret Tryz.prog 34 [.agg r.toArray, .agg r'.toArray] w fun u w' => u = int (cmpV a b) ∧ Sat F w' := by
  have ha0 := ha
  have hb0 := hb
  obtain ⟨k, m, e, t, l, ks⟩ := a
  obtain ⟨k', m', e', t', l', ks'⟩ := b
  obtain ⟨ql, qk, cl, ck, rows, rfl, -⟩ := ha.open_
  obtain ⟨ql', qk', cl', ck', rows', rfl, -⟩ := hb.open_
  refine Ret.enter [(true, .agg #[int k, int m, int e, str t, .slice ql l.length cl, .slice qk ks.length ck]), (true, .agg #[int k', int m', int e', str t', .slice ql' l'.length cl', .slice qk' ks'.length ck'])] _ Tryz.func34 rfl Tryz.ntmps34 rfl ?_
  refine zz ?_
  refine MC.does true (does_box hs rfl rfl) rfl ?_; rintro _ w ⟨b2, rfl, hs⟩
  refine zz ?_
  refine MC.does true (does_box hs rfl rfl) rfl ?_; rintro _ w ⟨b3, rfl, hs⟩
  refine zz ?_
  refine MC.la true (la_loadV hs rfl (vs := [int k, int m, int e, str t, .slice ql l.length cl, .slice qk ks.length ck]) rfl rfl rfl) rfl ?_
  refine zz ?_
  refine MC.la true (la_loadV hs rfl (vs := [int k', int m', int e', str t', .slice ql' l'.length cl', .slice qk' ks'.length ck']) rfl rfl rfl) rfl ?_
  refine zz ?_
  refine zc rfl (compare_spec _ hs hT.up ha0.up hb0.up hza hzb hoa hob) ?_
  rintro _ w ⟨rfl, hs⟩
  refine zz ?_
  refine MC.ret rfl ?_
  exact ⟨rfl, hs.tail.tail⟩
end Go.Proofs.YtkccjgllanpebaaGreatDoor
