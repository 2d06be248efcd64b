/-
  What an argument reads as, it reads as again where the heap's old blocks lie as they lay: for bools, numbers, texts, slices and structs of them. Nothing of a program stands here.
-/
import Derived.Test.YtcahpllliflloaaGl
set_option linter.unusedVariables false
set_option linter.unusedSimpArgs false
namespace Go.Sl
open Go Go.ChangeShapes Go.WideShapes
theorem mapM_again {α β : Type} {f g : α → Option β} : ∀ {l : List α} {xs : List β}, l.mapM f = some xs → (∀ a y, a ∈ l → f a = some y → y ∈ xs → g a = some y) → l.mapM g = some xs
  | [], xs, h, _ => by simpa using h
  | a :: l, xs, h, hg => by
    rw [List.mapM_cons] at h ⊢
    cases ha : f a with
    | none => rw [ha] at h; simp at h
    | some y =>
      rw [ha] at h
      cases hl : l.mapM f with
      | none => rw [hl] at h; simp at h
      | some ys =>
        rw [hl] at h
        have h : y :: ys = xs := by simpa using h
        subst h
        rw [hg a y List.mem_cons_self ha List.mem_cons_self, mapM_again hl fun b z hm hb hz => hg b z (List.mem_cons_of_mem _ hm) hb (List.mem_cons_of_mem _ hz)]
        rfl
theorem mapM_range {β : Type} : ∀ (xs : List β) (f : Nat → Option β), (∀ i, i < xs.length → f i = xs[i]?) → (List.range xs.length).mapM f = some xs
  | [], _, _ => rfl
  | x :: xs, f, h => by
    have h0 := h 0 (by simp)
    have hr := mapM_range xs (fun i => f (i + 1)) fun i hi => by simpa using h (i + 1) (by simpa using hi)
    rw [List.length_cons, List.range_succ_eq_map, List.mapM_cons, h0, List.mapM_map]
    simp only [List.getElem?_cons_zero]
    have : (List.range xs.length).mapM (f ∘ Nat.succ) = some xs := hr
    rw [this]; rfl
/-- Types of which alone this speaks. -/
def plain (P : Program) : Nat → TypeId → Bool
  | 0, _ => false
  | n + 1, t => match P.underlying t with
    | some .bool => true
    | some (.int _) => true
    | some .string => true
    | some (.slice e) => Nat.blt 0 (P.cellsOf e) && plain P n e
    | some (.struct fs) => fs.toList.all fun f => plain P n f.type
    | _ => false
section
variable {H : Type} {enc : TypeId × Value → H} {P : Program} {W W' : World} {sp : Nat → Bool}
theorem cells_again (hsame : ∀ i, i < W.heap.size → W'.heap[i]? = W.heap[i]?) {a : Addr} {n : Nat} {cs : List Value} (h : W.cells? 0 a n = some cs) (hn : 0 < n) : W'.cells? 0 a n = some cs := by
  have hlt := World.cells?_block h hn
  have e : ∀ i, W'.cell? (a.add i) = W.cell? (a.add i) := fun i => by
    have hb : (a.add i).block = a.block := by simp only [Addr.add]; split <;> rfl
    unfold World.cell?
    rw [hb, hsame _ hlt]
  unfold World.cells? at h ⊢
  simpa only [e] using h
theorem trod_again (hsame : ∀ i, i < W.heap.size → W'.heap[i]? = W.heap[i]?) : ∀ (m n : Nat) (t : TypeId) (cs : List Value) (x : DataW H × List MemPlace), plain P m t = true → DataW.trod enc P W 0 (fun _ => true) true n t cs = some x → (∀ p ∈ x.2, sp p.block = true) →
    DataW.trod enc P W' 0 sp true n t cs = some x
  | 0, _, _, _, _, hp, _, _ => by simp [plain] at hp
  | m + 1, 0, _, _, _, _, h, _ => by simp [DataW.trod] at h
  | m + 1, n + 1, t, cs, x, hp, h, hs => by
    simp only [plain] at hp
    split at hp
    · rename_i ht
      unfold DataW.trod at h ⊢
      rw [ht] at h ⊢
      split at h <;> simp_all
    · rename_i k ht
      unfold DataW.trod at h ⊢
      rw [ht] at h ⊢
      split at h <;> simp_all
    · rename_i ht
      unfold DataW.trod at h ⊢
      rw [ht] at h ⊢
      split at h <;> simp_all
    · rename_i e ht
      simp only [Bool.and_eq_true, Nat.blt_eq] at hp
      obtain ⟨hc, hp⟩ := hp
      rcases DataW.trod_slice ht h with ⟨rfl, rfl⟩ | ⟨a, len, cap, elems, rest, n', hn, rfl, rfl, hb, hl, hm, hlen, hel, hsp, hns⟩
      · unfold DataW.trod
        simp only [ht]
      · cases hn
        obtain ⟨hrl, hre⟩ := hsp rfl
        have again : ∀ (i : Nat) (y : DataW H × List MemPlace), y ∈ elems ++ rest → (W.cells? 0 (a.add (i * P.cellsOf e)) (P.cellsOf e)).bind (DataW.trod enc P W 0 (fun _ => true) true n e) = some y → (W'.cells? 0 (a.add (i * P.cellsOf e)) (P.cellsOf e)).bind (DataW.trod enc P W' 0 sp true n e) = some y := by
          intro i y hy h1
          obtain ⟨cs', h2, h3⟩ := Option.bind_eq_some_iff.1 h1
          rw [cells_again hsame h2 hc]
          refine trod_again hsame m n e cs' y hp h3 fun p hpp => hs p ?_
          refine List.mem_append_right _ (List.mem_flatMap.2 ⟨y, hy, hpp⟩)
        have h1 : (List.range len).mapM (fun i => (W'.cells? 0 (a.add (i * P.cellsOf e)) (P.cellsOf e)).bind (DataW.trod enc P W' 0 sp true n e)) = some elems := by
          rw [← hlen]
          refine mapM_range elems _ fun i hi => ?_
          have h2 := hel i (by omega)
          rw [List.getElem?_eq_getElem hi] at h2 ⊢
          exact again i _ (List.mem_append_left _ (List.getElem_mem hi)) h2
        have h3 : (List.range (cap - len)).mapM (fun j => (W'.cells? 0 (a.add ((len + j) * P.cellsOf e)) (P.cellsOf e)).bind (DataW.trod enc P W' 0 sp true n e)) = some rest := by
          rw [← hrl]
          refine mapM_range rest _ fun j hj => ?_
          have h2 := hre j (by omega)
          rw [List.getElem?_eq_getElem hj] at h2 ⊢
          exact again (len + j) _ (List.mem_append_right _ (List.getElem_mem hj)) h2
        have h4 : (if sp a.block = true then (List.range (cap - len)).mapM (fun j => (W'.cells? 0 (a.add ((len + j) * P.cellsOf e)) (P.cellsOf e)).bind (DataW.trod enc P W' 0 sp true n e)) else some []) = some rest := by
          by_cases hz : sp a.block = true
          · rw [if_pos hz, h3]
          · rw [if_neg hz]
            cases rest with
            | nil => rfl
            | cons r rest =>
              exfalso
              refine hz (hs (.cell a.block (a.off + 0)) (List.mem_append_left _ (List.mem_map.2 ⟨0, List.mem_range.2 ?_, rfl⟩)))
              exact Nat.mul_pos (by simp only [List.length_cons]; omega) hc
        unfold DataW.trod
        simp only [ht]
        rw [if_pos ⟨hb, hl, hm⟩, h1]
        simp only [Option.bind_some]
        rw [h4]
        rfl
    · rename_i fs ht
      unfold DataW.trod at h ⊢
      rw [ht] at h ⊢
      simp only [] at h ⊢
      split at h
      · rename_i hlen
        rw [if_pos hlen]
        obtain ⟨xs, h1, rfl⟩ := Option.map_eq_some_iff.1 h
        have hx : xs ≠ [] ∨ xs = [] := by cases xs <;> simp
        rw [mapM_again (g := fun f => DataW.trod enc P W' 0 sp true n f.type ((cs.drop f.offset).take (P.cellsOf f.type))) h1 ?_]
        · rfl
        · intro f y hf hy hyx
          exact trod_again hsame m n f.type _ y (List.all_eq_true.1 hp f hf) hy fun p hpp => hs p (List.mem_flatMap.2 ⟨y, hyx, hpp⟩)
      · cases h
    · cases hp
theorem trodAll_again (hsame : ∀ i, i < W.heap.size → W'.heap[i]? = W.heap[i]?) (m : Nat) : ∀ {ts : List TypeId} {vs : List Value} {ds : List (DataW H)} {ps : List MemPlace}, ts.all (plain P m) = true → DataW.TrodAll enc P W 0 (fun _ => true) true ts vs ds ps → (∀ p ∈ ps, sp p.block = true) → DataW.TrodAll enc P W' 0 sp true ts vs ds ps
  | [], [], [], _, _, h, _ => h
  | t :: ts, v :: vs, d :: ds, _, hp, ⟨a, b, ⟨n, h1⟩, h2, e⟩, hs => by
    subst e
    simp only [List.all_cons, Bool.and_eq_true] at hp
    exact ⟨a, b, ⟨n, trod_again hsame m n t _ _ hp.1 h1 fun p hpp => hs p (List.mem_append_left _ hpp)⟩, trodAll_again hsame m hp.2 h2 fun p hpp => hs p (List.mem_append_right _ hpp), rfl⟩
  | [], _ :: _, _, _, _, h, _ => h.elim
  | [], [], _ :: _, _, _, h, _ => h.elim
  | _ :: _, [], _, _, _, h, _ => h.elim
  | _ :: _, _ :: _, [], _, _, h, _ => h.elim
end
end Go.Sl
