/- The law of a cut save: its walk. -/
import Derived.Test.YtoljbocejclaeaaTurnw
set_option linter.unusedVariables false
set_option linter.unusedSimpArgs false
namespace Go.Proofs.Ytoljbocejclaeaa
open Go Go.Sl
attribute [local irreducible] LooksAt

/-- What two sectors come to behind a loss. -/
theorem lose_one {D : Dev} {k : Nat} {l : List UInt8} (hO : D.O = []) (hk : k < D.S.length) (kept : List Bool) (torn at' : Int) :
    ∃ m, m ≤ 256 ∧ (D.write k l).lose kept torn at' = ⟨D.S.set k (l.take m ++ (D.S.getD k []).drop m), [], 0, 0⟩ := by
  refine ⟨lostN kept torn at' 0, lostN_le _ _ _ _, ?_⟩
  have e : (D.write k l).O = [(k, l)] := by show D.O ++ [(k, l)] = _; rw [hO]; rfl
  have e2 : (D.write k l).S = D.S := rfl
  rw [Dev.lose, e, e2]
  rfl
theorem enc_at {D : Dev} {A B : Sv} (hC : Coh D A B) : D.S.getD ((1 : Int) + otherOf A B).toNat [] = encS (otherOf A B) (if otherOf A B = 1 then B else A) := by
  rcases otherOf_cases A B with e | e
  · rw [e]
    simp only [show ¬ ((0 : Int) = 1) by decide, if_false]
    exact hC.a
  · rw [e]
    simp only [if_true]
    exact hC.b
theorem latest_keep {A B N : Sv} (hA : A.ok) (hB : B.ok) (hN : N = (if otherOf A B = 1 then B else A) ∨ N = Sv.no) : latestOf (if otherOf A B = 1 then A else N) (if otherOf A B = 1 then N else B) = latestOf A B := by
  obtain ⟨sa, ea, fa⟩ := A
  obtain ⟨sb, eb, fb⟩ := B
  have hA1 := hA.no
  have hB1 := hB.no
  rcases hN with rfl | rfl
  · split <;> rfl
  · cases sa <;> cases sb
    · simp_all [latestOf, otherOf, whichOf, Sv.no]
    · simp_all [latestOf, otherOf, whichOf, Sv.no]
    · simp_all [latestOf, otherOf, whichOf, Sv.no]
    · by_cases h : ea < eb
      · simp_all [latestOf, otherOf, whichOf, Sv.no]
      · simp_all [latestOf, otherOf, whichOf, Sv.no]
theorem torn_pair {D : Dev} {A B N : Sv} (hC : Coh D A B) (hN : N.ok) (hs : N.stands = true) (hn : N.epoch ≤ 255) (ho : A.epoch < N.epoch ∧ B.epoch < N.epoch) (he : (latestOf A B).epoch < N.epoch) {m : Nat} (hm : m ≤ 256) :
    ∃ E : Dev, E = ⟨D.S.set ((1 : Int) + otherOf A B).toNat ((sectorB (otherOf A B) N.epoch N.fields).take m ++ (D.S.getD ((1 : Int) + otherOf A B).toNat []).drop m), [], 0, 0⟩ ∧
      ∃ A' B', readS 0 (E.get (1 : Int).toNat) = A' ∧ readS 1 (E.get ((1 : Int) + 1).toNat) = B' ∧ E.ok ∧ E.S.length = 4 ∧ E.O = [] ∧ E.fuse = 0 ∧ A'.fields.length ≤ 40 ∧ B'.fields.length ≤ 40 ∧ (latestOf A' B' = N ∨ latestOf A' B' = latestOf A B) := by
  have hE : encS (otherOf A B) N = sectorB (otherOf A B) N.epoch N.fields := by rw [encS, if_pos hs]
  refine ⟨_, rfl, ?_⟩
  rw [← hE, enc_at hC]
  have hlen := hC.len
  have h1 := hN.lo hs
  have hOok : (if otherOf A B = 1 then B else A).ok := by split; exact hC.okB; exact hC.okA
  have hOe : (if otherOf A B = 1 then B else A).epoch < N.epoch := by split; exact ho.2; exact ho.1
  have hmix := mix_read (which := otherOf A B) hN hOok hs hn hOe hm
  have hml : ((encS (otherOf A B) N).take m ++ (encS (otherOf A B) (if otherOf A B = 1 then B else A)).drop m).length = 256 := by
    rw [List.length_append, List.length_take, List.length_drop, encS_length hN, encS_length hOok]; omega
  have hk := otherOf_cases A B
  generalize hgm : (encS (otherOf A B) N).take m ++ (encS (otherOf A B) (if otherOf A B = 1 then B else A)).drop m = mx at hmix hml
  obtain ⟨R, hR⟩ : ∃ R, readS (otherOf A B) mx = R := ⟨_, rfl⟩
  rw [hR] at hmix
  have hRl : latestOf (if otherOf A B = 1 then A else R) (if otherOf A B = 1 then R else B) = N ∨ latestOf (if otherOf A B = 1 then A else R) (if otherOf A B = 1 then R else B) = latestOf A B := by
    rcases hmix with rfl | h | h
    · left; exact latest_put hC.okA hC.okB R hs he (by omega)
    · right; exact latest_keep hC.okA hC.okB (.inl h)
    · right; exact latest_keep hC.okA hC.okB (.inr h)
  have hRf : R.fields.length ≤ 40 := by
    rcases hmix with rfl | rfl | rfl
    · exact hN.few
    · exact hOok.few
    · exact Nat.zero_le _
  have okE : (⟨D.S.set ((1 : Int) + otherOf A B).toNat mx, [], 0, 0⟩ : Dev).ok :=
    { pos := by simp only [List.length_set]; omega
      few := by simp only [List.length_set]; omega
      sec := fun s h => by
        rcases List.mem_or_eq_of_mem_set h with h | rfl
        · exact hC.ok.sec s h
        · exact hml
      op := fun x hx => by cases hx
      fuse0 := by simp
      fuse1 := by simp }
  have ga := hC.a
  have gb := hC.b
  refine ⟨if otherOf A B = 1 then A else R, if otherOf A B = 1 then R else B, ?_, ?_, okE, by simp [hlen], rfl, rfl, ?_, ?_, hRl⟩
  · rw [get_noO rfl]
    show readS 0 ((D.S.set ((1 : Int) + otherOf A B).toNat mx).getD 1 []) = _
    rcases hk with e | e
    · rw [e] at hR ⊢
      simp only [show ¬ ((0 : Int) = 1) by decide, if_false]
      rw [show ((1 : Int) + 0).toNat = 1 from rfl, List.getD_eq_getElem?_getD, List.getElem?_set_self (by omega)]
      exact hR
    · rw [e]
      simp only [if_true]
      rw [show ((1 : Int) + 1).toNat = 2 from rfl, List.getD_eq_getElem?_getD, List.getElem?_set_ne (by decide), ← List.getD_eq_getElem?_getD, ga, read_enc hC.okA]
  · rw [get_noO rfl]
    show readS 1 ((D.S.set ((1 : Int) + otherOf A B).toNat mx).getD 2 []) = _
    rcases hk with e | e
    · rw [e]
      simp only [show ¬ ((0 : Int) = 1) by decide, if_false]
      rw [show ((1 : Int) + 0).toNat = 1 from rfl, List.getD_eq_getElem?_getD, List.getElem?_set_ne (by decide), ← List.getD_eq_getElem?_getD, gb, read_enc hC.okB]
    · rw [e] at hR ⊢
      simp only [if_true]
      rw [show ((1 : Int) + 1).toNat = 2 from rfl, List.getD_eq_getElem?_getD, List.getElem?_set_self (by omega)]
      exact hR
  · split
    · exact hC.okA.few
    · exact hRf
  · split
    · exact hRf
    · exact hC.okB.few
/-- All that is saved is not later than so. -/
theorem epochs_le {A B : Sv} (hA : A.ok) (hB : B.ok) {n : Int} (h0 : 0 ≤ n) (h : (latestOf A B).epoch ≤ n) : A.epoch ≤ n ∧ B.epoch ≤ n := by
  obtain ⟨sa, ea, fa⟩ := A
  obtain ⟨sb, eb, fb⟩ := B
  have hA1 := hA.no
  have hB1 := hB.no
  have hA2 := hA.lo
  have hB2 := hB.lo
  cases sa <;> cases sb
  · simp_all [latestOf, otherOf, whichOf, Sv.no]
  · simp_all [latestOf, otherOf, whichOf, Sv.no]
  · simp_all [latestOf, otherOf, whichOf, Sv.no]
  · by_cases h : ea < eb
    · simp_all [latestOf, otherOf, whichOf, Sv.no]
      omega
    · simp_all [latestOf, otherOf, whichOf, Sv.no]
      omega
def nth (n : Nat) (was : List Int) : Sv := if n = 0 then Sv.no else ⟨true, n, was⟩
end Go.Proofs.Ytoljbocejclaeaa
