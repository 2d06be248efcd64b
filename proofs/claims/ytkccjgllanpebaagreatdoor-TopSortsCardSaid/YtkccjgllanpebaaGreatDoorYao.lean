/-
  The device: making one, writing, syncing, what is open, a loss of power | What the tree's list and the values are to each other; the way through the sorted values | What an argument of a type that holds itself reads as, it reads as again where the heap's old blocks lie as they lay | A slice of whatever plain elements, as a row hands it in: a list that is read, element by element | The device: writing, syncing, what is open | The device: syncing, what is open | Values of interface types; noughts appended to what has no room; rows of slices with what they show | The device: what is read of it
-/
import Derived.Test.YtkccjgllanpebaaGreatDoorYan
import Derived.Test.YtkccjgllanpebaaGreatDoorYaf
import Derived.Test.YtkccjgllanpebaaGreatDoorYam
import Derived.Test.YtkccjgllanpebaaGreatDoorYak
set_option linter.unusedVariables false
set_option linter.unusedSimpArgs false
namespace Go.Proofs.YtkccjgllanpebaaGreatDoor
open Go Go.Sl
attribute [local irreducible] LooksAt
abbrev byte (c : UInt8) : Value := .int .u8 (c.toNat : Int)
def filled (c : UInt8) (l : List UInt8) : List UInt8 := l.take 256 ++ many (256 - l.length) c
def Dev.new (n : Nat) : Dev := ⟨List.replicate n (many 256 0), [], 0, 0⟩
theorem Dev.new_ok {n : Nat} (h1 : 1 ≤ n) (h2 : n ≤ 8192) : (Dev.new n).ok :=
  { pos := by simp only [Dev.new, List.length_replicate]; omega
    few := by simp only [Dev.new, List.length_replicate]; omega
    sec := fun s hs => by
      have := (List.mem_replicate.1 hs).2
      rw [this]; simp
    op := fun x hx => by cases hx
    fuse0 := by simp [Dev.new]
    fuse1 := by simp [Dev.new] }
theorem new_spec {F : List Assn} {w : World} (hs : Sat F w) (n : Nat) (h1 : 1 ≤ n) (h2 : n ≤ 8192) :
    Ret Tryz.prog 39 [int n] w fun v w' => ∃ p, v = .tuple #[ptr p, int 0] ∧ Sat (dev p (Dev.new n) :: F) w' := by
  refine Ret.enter [(true, int n)] _ Tryz.func39 rfl Tryz.ntmps39 rfl ?_
  repeat first | refine zg tab rfl rfl ?_ | refine zl (za hs rfl) ?_
  refine MC.part rfl rfl (fun h => absurd h (by omega)) (fun _ => ?_)
  repeat first | refine zg tab rfl rfl ?_ | refine zl (za hs rfl) ?_
  refine MC.cond rfl (fun h => absurd h (by omega)) (fun _ => ?_)
  repeat first | refine zg tab rfl rfl ?_ | refine zl (za hs rfl) ?_
  refine MC.does true (does_makeSlice hs rfl rfl (Nat.le_refl _) (by omega) (by omega)) rfl ?_
  rintro _ w ⟨b, rfl, hs⟩
  refine MC.pure (f := true) (po_build (ls := [(0, [.slice (some ⟨b, 0, none⟩) n n])]) rfl rfl ⟨⟨_, rfl, by simp⟩, trivial⟩ rfl) rfl ?_
  refine MC.does true (does_box hs rfl rfl) rfl ?_
  rintro _ w ⟨p, rfl, hs⟩
  repeat first | refine zg tab rfl rfl ?_ | refine zl (za hs rfl) ?_
  refine MC.ret rfl ?_
  refine ⟨p, rfl, dev_shut (vs := .slice (some ⟨b, 0, none⟩) n n) (vo := .slice none 0 0) ?_⟩
  have e : rep n (reps 256 (.int .u8 0)) = secV (Dev.new n).S := by rw [← bytesV_zeros, rep_flatMap]; rfl
  rw [e] at hs
  have hl : (secV (Dev.new n).S).length = n * 256 := by rw [← e, rep_length]; simp
  have hS : (Dev.new n).S.length = n := by simp [Dev.new]
  rw [hS]
  have h3 := hs.swap
  rw [← List.append_nil (secV (Dev.new n).S)] at h3
  have h4 := h3.sl_mk (n := n) (c := n) (size := 256) (Nat.le_refl _) hl (by simp [hl])
  exact (Sat.sl_nil h4 251 257).pickF 3 [2, 1, 0] rfl rfl
end Go.Proofs.YtkccjgllanpebaaGreatDoor

namespace Go.Kv
open Go.Tr Go.Pa
theorem nw_append : ∀ (l m : List V) (p : Option V), nw p (l ++ m) = nw p l ++ nw (match l.getLast? with | some a => some a | none => p) m
  | [], m, p => rfl
  | a :: l, m, p => by
    have ih := nw_append l m (some a)
    have e : (match (a :: l).getLast? with | some a => some a | none => p) = (match l.getLast? with | some a => some a | none => some a) := by
      cases l with
      | nil => rfl
      | cons c l =>
        rw [List.getLast?_cons_cons]
        cases h : (c :: l).getLast? with
        | none => simp at h
        | some x => rfl
    rw [e]
    obtain ⟨X, hX⟩ : ∃ X, nw (match l.getLast? with | some a => some a | none => some a) m = X := ⟨_, rfl⟩
    rw [hX] at ih ⊢
    show nw p (a :: (l ++ m)) = nw p (a :: l) ++ X
    unfold nw
    split
    · exact ih
    · rw [ih, List.cons_append]
theorem nw_step {l : List V} {i : Nat} (h : i < l.length) : nw none (l.take (i + 1)) = nw none (l.take i) ++ (if 0 < i ∧ l[i - 1]? = some l[i] then [] else [l[i]]) := by
  rw [List.take_succ_eq_append_getElem h, nw_snoc]
  congr 1
  have e : (l.take i).getLast? = if 0 < i then l[i - 1]? else none := by
    rcases Nat.eq_zero_or_pos i with rfl | h0
    · rfl
    · rw [if_pos h0, List.getLast?_eq_getElem?, List.length_take, Nat.min_eq_left (Nat.le_of_lt h), List.getElem?_take, if_pos (by omega)]
  rw [e]
  by_cases h0 : 0 < i
  · rw [if_pos h0]
    cases h1 : l[i - 1]? with
    | none => simp
    | some a => by_cases h2 : a = l[i] <;> simp [h0, h2]
  · rw [if_neg h0]
    simp [h0]
theorem nw_at {l : List V} {i : Nat} (h : i < l.length) (hn : ¬ (0 < i ∧ l[i - 1]? = some l[i])) : (nw none l)[(nw none (l.take i)).length]? = some l[i] := by
  have h1 := nw_step h
  rw [if_neg hn] at h1
  have h2 := nw_append (l.take (i + 1)) (l.drop (i + 1)) none
  rw [List.take_append_drop, h1, List.append_assoc] at h2
  rw [h2, List.getElem?_append_right (Nat.le_refl _), Nat.sub_self]
  rfl
theorem key_at {l : List V} {L : List Pr} (hk : (nw none l).map putV = L.map (·.1)) {i : Nat} (h : i < l.length) (hn : ¬ (0 < i ∧ l[i - 1]? = some l[i])) : (L.map (·.1))[(nw none (l.take i)).length]? = some (putV l[i]) := by
  rw [← hk, List.getElem?_map, nw_at h hn]; rfl
structure TI (few : List V) (L : List Pr) : Prop where
  srt : srt L
  to_ : ∀ v ∈ few, ∃ x, (putV v, x) ∈ L
  of_ : ∀ p ∈ L, ∃ v ∈ few, p.1 = putV v
  short : ∀ p ∈ L, p.2.length ≤ 15
  len : L.length ≤ few.length
theorem TI.nil : TI [] [] := ⟨List.Pairwise.nil, fun v h => (by cases h), fun p h => (by cases h), fun p h => (by cases h), Nat.le_refl _⟩
theorem ins_mem {L : List Pr} {k x : Bs} {p : Pr} (h : p ∈ insL L k x) : p = (k, x) ∨ p ∈ L := by
  unfold insL at h
  rcases List.mem_append.1 h with h | h
  · exact .inr (List.mem_filter.1 h).1
  · rcases List.mem_cons.1 h with h | h
    · exact .inl h
    · exact .inr (List.mem_filter.1 h).1
theorem mem_ins {L : List Pr} {k x : Bs} {p : Pr} (h : p ∈ L) (hk : p.1 ≠ k) : p ∈ insL L k x := by
  unfold insL
  rcases ltB_total p.1 k with h1 | h1 | h1
  · exact List.mem_append_left _ (List.mem_filter.2 ⟨h, h1⟩)
  · exact absurd h1 hk
  · exact List.mem_append_right _ (List.mem_cons_of_mem _ (List.mem_filter.2 ⟨h, h1⟩))
theorem ins_self {L : List Pr} {k x : Bs} : (k, x) ∈ insL L k x := by
  unfold insL; exact List.mem_append_right _ List.mem_cons_self
theorem TI.snoc {few : List V} {L : List Pr} {v : V} {x : Bs} (h : TI few L) (hx : x.length ≤ 15) : TI (few ++ [v]) (insL L (putV v) x) := by
  refine ⟨srt_ins h.srt, fun u hu => ?_, fun p hp => ?_, fun p hp => ?_, ?_⟩
  · rcases List.mem_append.1 hu with hu | hu
    · by_cases e : putV u = putV v
      · exact ⟨x, by rw [e]; exact ins_self⟩
      · obtain ⟨y, hy⟩ := h.to_ u hu
        exact ⟨y, mem_ins hy e⟩
    · rw [List.mem_singleton.1 hu]; exact ⟨x, ins_self⟩
  · rcases ins_mem hp with rfl | hp
    · exact ⟨v, List.mem_append_right _ (List.mem_singleton.2 rfl), rfl⟩
    · obtain ⟨u, hu, e⟩ := h.of_ p hp
      exact ⟨u, List.mem_append_left _ hu, e⟩
  · rcases ins_mem hp with rfl | hp
    · exact hx
    · exact h.short p hp
  · have h1 := len_ins (k := putV v) (v := x) h.srt
    have h2 := h.len
    rw [List.length_append, List.length_singleton]
    split at h1 <;> omega
end Go.Kv

namespace Go.Sl
open Go Go.ChangeShapes Go.WideShapes
def shut (P : Program) (ts : List TypeId) : Bool := ts.all fun t => match P.underlying t with
    | some .bool => true
    | some (.int _) => true
    | some .string => true
    | some (.slice e) => Nat.blt 0 (P.cellsOf e) && ts.any (Nat.beq e)
    | some (.struct fs) => fs.toList.all fun f => ts.any (Nat.beq f.type)
    | _ => false
theorem isIn {t : TypeId} {ts : List TypeId} (h : ts.any (Nat.beq t) = true) : t ∈ ts := by
  obtain ⟨u, hu, e⟩ := List.any_eq_true.1 h
  exact Nat.eq_of_beq_eq_true e ▸ hu
section
variable {H : Type} {enc : TypeId × Value → H} {P : Program} {W W' : World} {sp : Nat → Bool}
theorem trod_againR (hsame : ∀ i, i < W.heap.size → W'.heap[i]? = W.heap[i]?) {ts : List TypeId} (hT : shut P ts = true) : ∀ (n : Nat) (t : TypeId) (cs : List Value) (x : DataW H × List MemPlace), t ∈ ts → DataW.trod enc P W 0 (fun _ => true) true n t cs = some x → (∀ p ∈ x.2, sp p.block = true) →
    DataW.trod enc P W' 0 sp true n t cs = some x
  | 0, _, _, _, _, h, _ => by simp [DataW.trod] at h
  | n + 1, t, cs, x, hp, h, hs => by
    have hp := List.all_eq_true.1 hT t hp
    split at hp
    · rename_i ht
      unfold DataW.trod at h ⊢
      rw [ht] at h ⊢
      split at h <;> simp_all
    · rename_i k ht
      unfold DataW.trod at h ⊢
      rw [ht] at h ⊢
      split at h <;> simp_all
    · rename_i ht
      unfold DataW.trod at h ⊢
      rw [ht] at h ⊢
      split at h <;> simp_all
    · rename_i e ht
      simp only [Bool.and_eq_true, Nat.blt_eq] at hp
      obtain ⟨hc, hp⟩ := hp
      rcases DataW.trod_slice ht h with ⟨rfl, rfl⟩ | ⟨a, len, cap, elems, rest, n', hn, rfl, rfl, hb, hl, hm, hlen, hel, hsp, hns⟩
      · unfold DataW.trod
        simp only [ht]
      · cases hn
        obtain ⟨hrl, hre⟩ := hsp rfl
        have again : ∀ (i : Nat) (y : DataW H × List MemPlace), y ∈ elems ++ rest → (W.cells? 0 (a.add (i * P.cellsOf e)) (P.cellsOf e)).bind (DataW.trod enc P W 0 (fun _ => true) true n e) = some y → (W'.cells? 0 (a.add (i * P.cellsOf e)) (P.cellsOf e)).bind (DataW.trod enc P W' 0 sp true n e) = some y := by
          intro i y hy h1
          obtain ⟨cs', h2, h3⟩ := Option.bind_eq_some_iff.1 h1
          rw [cells_again hsame h2 hc]
          refine trod_againR hsame hT n e cs' y (isIn hp) h3 fun p hpp => hs p ?_
          refine List.mem_append_right _ (List.mem_flatMap.2 ⟨y, hy, hpp⟩)
        have h1 : (List.range len).mapM (fun i => (W'.cells? 0 (a.add (i * P.cellsOf e)) (P.cellsOf e)).bind (DataW.trod enc P W' 0 sp true n e)) = some elems := by
          rw [← hlen]
          refine mapM_range elems _ fun i hi => ?_
          have h2 := hel i (by omega)
          rw [List.getElem?_eq_getElem hi] at h2 ⊢
          exact again i _ (List.mem_append_left _ (List.getElem_mem hi)) h2
        have h3 : (List.range (cap - len)).mapM (fun j => (W'.cells? 0 (a.add ((len + j) * P.cellsOf e)) (P.cellsOf e)).bind (DataW.trod enc P W' 0 sp true n e)) = some rest := by
          rw [← hrl]
          refine mapM_range rest _ fun j hj => ?_
          have h2 := hre j (by omega)
          rw [List.getElem?_eq_getElem hj] at h2 ⊢
          exact again (len + j) _ (List.mem_append_right _ (List.getElem_mem hj)) h2
        have h4 : (if sp a.block = true then (List.range (cap - len)).mapM (fun j => (W'.cells? 0 (a.add ((len + j) * P.cellsOf e)) (P.cellsOf e)).bind (DataW.trod enc P W' 0 sp true n e)) else some []) = some rest := by
          by_cases hz : sp a.block = true
          · rw [if_pos hz, h3]
          · rw [if_neg hz]
            cases rest with
            | nil => rfl
            | cons r rest =>
              exfalso
              refine hz (hs (.cell a.block (a.off + 0)) (List.mem_append_left _ (List.mem_map.2 ⟨0, List.mem_range.2 ?_, rfl⟩)))
              exact Nat.mul_pos (by simp only [List.length_cons]; omega) hc
        unfold DataW.trod
        simp only [ht]
        rw [if_pos ⟨hb, hl, hm⟩, h1]
        simp only [Option.bind_some]
        rw [h4]
        rfl
    · rename_i fs ht
      unfold DataW.trod at h ⊢
      rw [ht] at h ⊢
      simp only [] at h ⊢
      split at h
      · rename_i hlen
        rw [if_pos hlen]
        obtain ⟨xs, h1, rfl⟩ := Option.map_eq_some_iff.1 h
        have hx : xs ≠ [] ∨ xs = [] := by cases xs <;> simp
        rw [mapM_again (g := fun f => DataW.trod enc P W' 0 sp true n f.type ((cs.drop f.offset).take (P.cellsOf f.type))) h1 ?_]
        · rfl
        · intro f y hf hy hyx
          exact trod_againR hsame hT n f.type _ y (isIn (List.all_eq_true.1 hp f hf)) hy fun p hpp => hs p (List.mem_flatMap.2 ⟨y, hyx, hpp⟩)
      · cases h
    · cases hp
theorem trodAll_againR (hsame : ∀ i, i < W.heap.size → W'.heap[i]? = W.heap[i]?) (T : List TypeId) (hT : shut P T = true) : ∀ {ts : List TypeId} {vs : List Value} {ds : List (DataW H)} {ps : List MemPlace}, ts.all (fun t => T.any (Nat.beq t)) = true → DataW.TrodAll enc P W 0 (fun _ => true) true ts vs ds ps → (∀ p ∈ ps, sp p.block = true) → DataW.TrodAll enc P W' 0 sp true ts vs ds ps
  | [], [], [], _, _, h, _ => h
  | t :: ts, v :: vs, d :: ds, _, hp, ⟨a, b, ⟨n, h1⟩, h2, e⟩, hs => by
    subst e
    simp only [List.all_cons, Bool.and_eq_true] at hp
    exact ⟨a, b, ⟨n, trod_againR hsame hT n t _ _ (isIn hp.1) h1 fun p hpp => hs p (List.mem_append_left _ hpp)⟩, trodAll_againR hsame T hT hp.2 h2 fun p hpp => hs p (List.mem_append_right _ hpp), rfl⟩
  | [], _ :: _, _, _, _, h, _ => h.elim
  | [], [], _ :: _, _, _, h, _ => h.elim
  | _ :: _, [], _, _, _, h, _ => h.elim
  | _ :: _, _ :: _, [], _, _, h, _ => h.elim
end
section
variable {H : Type} {enc : TypeId × Value → H} {P : Program} {W : World}
theorem rows_cell {α : Type} {f : α → List Value} {c : Nat} {xs : List α} (hc : ∀ x ∈ xs, (f x).length = c) {k r : Nat} (hk : k < xs.length) (hr : r < c) : (xs.flatMap f)[k * c + r]? = (f xs[k])[r]? := by
  have h := rows_get hc hk
  have h2 : (((xs.flatMap f).drop (k * c)).take c)[r]? = (f xs[k])[r]? := by rw [h]
  rw [List.getElem?_take, if_pos hr, List.getElem?_drop] at h2
  exact h2
theorem flat_one {α : Type} (f : α → Value) (l : List α) : l.flatMap (fun x => [f x]) = l.map f := by
  induction l with
  | nil => rfl
  | cons x l ih => simp [ih]
theorem trod_slice1 {t : TypeId} {v : Value} {d : DataW H} {p : List MemPlace} (hv : ∃ q n c, v = .slice q n c) (h : DataW.Trod enc P W 0 (fun _ => true) true t v d p) :
    ∃ n, DataW.trod enc P W 0 (fun _ => true) true n t [v] = some (d, p) := by
  obtain ⟨q, n, c, rfl⟩ := hv
  obtain ⟨fuel, h⟩ := h
  exact ⟨fuel, by simpa [Value.cells] using h⟩
end
theorem RdS.up {l F : List Assn} {size n : Nat} {v : Value} {xs : List Value} (h : RdS F size v n xs) [hF : Suf l F] : RdS l size v n xs := by
  obtain ⟨p, c, rfl, hc, hl, hp⟩ := h
  exact ⟨p, c, rfl, hc, hl, fun h0 => by obtain ⟨b, o, rfl, hr⟩ := hp h0; exact ⟨b, o, rfl, Rd.suf hr⟩⟩
theorem RdS.at_ {F : List Assn} {size n c m : Nat} {q : Option Addr} {xs : List Value} (h : RdS F size (.slice q n c) m xs) (h0 : 0 < n * size) : ∃ b o, q = some ⟨b, o, none⟩ ∧ Rd F b o xs := by
  obtain ⟨p, c', e, hc, hl, hp⟩ := h
  injection e with e1 e2 e3
  subst e1; subst e2
  exact hp h0
theorem RdS.shape {F : List Assn} {size n : Nat} {v : Value} {xs : List Value} (h : RdS F size v n xs) : ∃ q c, v = .slice q n c ∧ n ≤ c ∧ xs.length = n * size := by
  obtain ⟨p, c', e, hc, hl, hp⟩ := h
  exact ⟨p, c', e, hc, hl⟩
end Go.Sl

namespace Go.Proofs.YtkccjgllanpebaaGreatDoor
open Go Go.Sl
attribute [local irreducible] LooksAt
def Dev.write (D : Dev) (k : Nat) (l : List UInt8) : Dev := { D with O := D.O ++ [(k, l)], fuse := burnt D.fuse }
theorem Dev.wrong_zero {D : Dev} {k b : Int} : D.wrong k b = 0 ↔ 0 ≤ k ∧ k < D.S.length ∧ b = 256 ∧ D.fuse ≠ 1 := by
  simp only [Dev.wrong]
  split
  · simp; omega
  · split
    · simp; omega
    · split <;> simp <;> omega
theorem splice_all {vs cs : List Value} (h : vs.length = cs.length) : splice cs 0 vs = vs := by
  rw [splice_eq _ _ _ (by omega), List.take_zero, List.nil_append, List.drop_of_length_le (by omega), List.append_nil]
theorem one_cons {n : Int} {l : List Value} (h : ∀ u ∈ l, u.oneCell' = true) : ∀ u ∈ int n :: l, u.oneCell' = true := by
  intro u hu
  rcases List.mem_cons.1 hu with rfl | h'
  · rfl
  · exact h u h'
def laid (S : List (List UInt8)) (O : List (Nat × List UInt8)) : List (List UInt8) := O.foldl (fun S x => S.set x.1 x.2) S
theorem laid_length (O : List (Nat × List UInt8)) : ∀ S : List (List UInt8), (laid S O).length = S.length := by
  induction O with
  | nil => intro S; rfl
  | cons x O ih => intro S; exact (ih _).trans (by simp)
theorem laid_sec (O : List (Nat × List UInt8)) : ∀ S : List (List UInt8), (∀ s ∈ S, s.length = 256) → (∀ x ∈ O, x.2.length = 256) → ∀ s ∈ laid S O, s.length = 256 := by
  induction O with
  | nil => intro S h _; exact h
  | cons x O ih =>
    intro S h h2
    refine ih _ (fun s hs => ?_) (fun y hy => h2 y (List.mem_cons_of_mem _ hy))
    rcases List.mem_or_eq_of_mem_set hs with h' | rfl
    · exact h s h'
    · exact h2 x List.mem_cons_self
theorem opB_length {x : Nat × List UInt8} (h : x.2.length = 256) : (opB x).length = 257 := by simp [opB, h]
theorem opB_one (x : Nat × List UInt8) : ∀ u ∈ opB x, u.oneCell' = true := one_cons (bytesV_one _)
end Go.Proofs.YtkccjgllanpebaaGreatDoor

namespace Go.Sl
open Go
section
variable {P : Program} {r : Option Nat} {fr : Fr} {d : Option Tmp} {ty : TypeId} {pos : String} {aft : Array Edge} {g : Option (Nat × Bool)} {v vx : Value} {x y : Operand} {t e xt : TypeId} {w : World} {l F : List Assn}
theorem run_equal_iface_nil {ms : Array (String × TypeId)} [h : TyU P t (.interface ms)] (w : World) : (Op.equal t .nilIface .nilIface).run P w = .ok true w := by
  unfold Op.equal Op.maxDepth Op.equalIn
  rw [Sem.run_bind, TyU.run (t := t) w]
  simp
end

theorem RdS.takeL {F : List Assn} {size n c b : Nat} {p : Option Addr} {xs : List Value} (h : RdS F size (.slice p n c) n xs) (hb : b ≤ n) : RdS F size (.slice p b c) b (xs.take (b * size)) := by
  obtain ⟨p', c', e, hc, hl, hp⟩ := h
  injection e with e1 e2 e3
  subst e1; subst e3
  have hm : b * size ≤ n * size := Nat.mul_le_mul_right _ hb
  refine ⟨p, c, rfl, by omega, by rw [List.length_take]; omega, fun h0 => ?_⟩
  obtain ⟨q, o, rfl, hr⟩ := hp (by omega)
  refine ⟨q, o, rfl, fun w hw j u hu => hr w hw j u ?_⟩
  rw [List.getElem?_take] at hu
  split at hu
  · exact hu
  · cases hu
theorem RdS.dropL {F : List Assn} {size n c a : Nat} {p : Option Addr} {xs : List Value} (h : RdS F size (.slice p n c) n xs) (ha : a ≤ n) : RdS F size (.slice (cutAt p a c size) (n - a) (c - a)) (n - a) (xs.drop (a * size)) := by
  obtain ⟨p', c', e, hc, hl, hp⟩ := h
  injection e with e1 e2 e3
  subst e1; subst e3
  refine ⟨_, _, rfl, by omega, by rw [List.length_drop, hl, Nat.sub_mul], fun h0 => ?_⟩
  have hna : 0 < n - a := by
    rcases Nat.eq_zero_or_pos (n - a) with h | h
    · rw [h, Nat.zero_mul] at h0; omega
    · exact h
  have hsz : 0 < size := by
    rcases Nat.eq_zero_or_pos size with h | h
    · rw [h, Nat.mul_zero] at h0; omega
    · exact h
  obtain ⟨q, o, rfl, hr⟩ := hp (Nat.mul_pos (by omega) hsz)
  refine ⟨q, o + a * size, ?_, fun w hw j u hu => ?_⟩
  · unfold cutAt
    rw [if_neg (by omega)]
    simp [Addr.add]
  · rw [List.getElem?_drop] at hu
    have := hr w hw _ u hu
    rw [← Nat.add_assoc] at this
    exact this
theorem RdS.cap {F : List Assn} {size n c c' : Nat} {p : Option Addr} {xs : List Value} (h : RdS F size (.slice p n c) n xs) (hc : n ≤ c') : RdS F size (.slice p n c') n xs := by
  obtain ⟨p', c2, e, _, hl, hp⟩ := h
  injection e with e1 e2 e3
  subst e1
  exact ⟨p, c', rfl, hc, hl, hp⟩
theorem RdS.sub {F : List Assn} {n c a b : Nat} {p : Option Addr} {l : List UInt8} (h : RdS F 1 (.slice p n c) n (bytesV l)) (hab : a ≤ b) (hb : b ≤ n) (c' : Nat) (hc : b - a ≤ c') : RdS F 1 (.slice (cutAt p a c 1) (b - a) c') (b - a) (bytesV ((l.take b).drop a)) := by
  have h1 := (h.takeL (b := b) hb)
  have h2 := (h1.dropL (a := a) hab).cap hc
  rw [Nat.mul_one, Nat.mul_one] at h2
  have e : ((bytesV l).take b).drop a = bytesV ((l.take b).drop a) := by simp [bytesV, List.map_take, List.map_drop]
  rw [e] at h2
  exact h2
theorem RdS.subHi {F : List Assn} {n c b : Nat} {p : Option Addr} {l : List UInt8} (h : RdS F 1 (.slice p n c) n (bytesV l)) (hb : b ≤ n) : RdS F 1 (.slice p b c) b (bytesV (l.take b)) := by
  have h1 := (h.takeL (b := b) hb)
  rw [Nat.mul_one] at h1
  have e : (bytesV l).take b = bytesV (l.take b) := by simp [bytesV, List.map_take]
  rw [e] at h1
  exact h1
theorem RdS.subLo {F : List Assn} {n c a : Nat} {p : Option Addr} {l : List UInt8} (h : RdS F 1 (.slice p n c) n (bytesV l)) (ha : a ≤ n) : RdS F 1 (.slice (cutAt p a c 1) (n - a) (c - a)) (n - a) (bytesV (l.drop a)) := by
  have h1 := (h.dropL (a := a) ha)
  rw [Nat.mul_one] at h1
  have e : (bytesV l).drop a = bytesV (l.drop a) := by simp [bytesV, List.map_drop]
  rw [e] at h1
  exact h1

def bods (t : TypeId) (l : List (Value × List UInt8)) : Assn := star (l.map fun x => sl x.1 t 1 x.2.length (bytesV x.2))
section
variable {F : List Assn} {w : World} {t : TypeId} {l m : List (Value × List UInt8)}
theorem bods_app (h : Sat (bods t l :: bods t m :: F) w) : Sat (bods t (l ++ m) :: F) w := by
  have h1 := h.unstar
  have h2 : Sat (bods t m :: (l.map (fun x => sl x.1 t 1 x.2.length (bytesV x.2)) ++ F)) w := by
    have h3 := h1.pull (l.map (fun x => sl x.1 t 1 x.2.length (bytesV x.2))).length (A := bods t m) (by simp)
    have e : (l.map (fun x => sl x.1 t 1 x.2.length (bytesV x.2)) ++ bods t m :: F).eraseIdx (l.map (fun x => sl x.1 t 1 x.2.length (bytesV x.2))).length = l.map (fun x => sl x.1 t 1 x.2.length (bytesV x.2)) ++ F := by
      rw [List.eraseIdx_append_of_length_le (Nat.le_refl _)]; simp
    rw [e] at h3; exact h3
  have h4 : Sat (bods t l :: bods t m :: F) w := h
  -- the parts of l, then those of m
  have h5 : Sat (l.map (fun x => sl x.1 t 1 x.2.length (bytesV x.2)) ++ (m.map (fun x => sl x.1 t 1 x.2.length (bytesV x.2)) ++ F)) w := by
    have g : All (at_ (envOf w) (l.map (fun x => sl x.1 t 1 x.2.length (bytesV x.2))) ++ at_ (envOf w) (bods t m :: F)) (hpOf w) := by
      rw [at_, at_, ← List.map_append]; exact h1
    obtain ⟨a1, a2, ap, l1, l2, ha, hb⟩ := All.append_iff.1 g
    have hb2 : All (at_ (envOf w) (m.map (fun x => sl x.1 t 1 x.2.length (bytesV x.2))) ++ at_ (envOf w) F) a2 := All.append_iff.2 hb
    have := All.append_iff.2 ⟨a1, a2, ap, l1, l2, ha, hb2⟩
    rw [at_, at_, at_, ← List.map_append, ← List.map_append] at this
    exact this
  rw [← List.append_assoc, ← List.map_append] at h5
  exact Sat.restar h5
theorem bods_nil (h : Sat F w) : Sat (bods t [] :: F) w := Sat.restar (l := []) h
theorem bods_one {v : Value} {b : List UInt8} (h : Sat (sl v t 1 b.length (bytesV b) :: F) w) : Sat (bods t [(v, b)] :: F) w := Sat.restar (l := [_]) h
theorem bods_snoc {v : Value} {b : List UInt8} (h : Sat (sl v t 1 b.length (bytesV b) :: bods t l :: F) w) : Sat (bods t (l ++ [(v, b)]) :: F) w := bods_app (bods_one h).swap
theorem bods_rd (h : Sat (bods t l :: F) w) {x : Value × List UInt8} (hx : x ∈ l) : RdS (bods t l :: F) 1 x.1 x.2.length (bytesV x.2) := by
  obtain ⟨i, hi, rfl⟩ := List.mem_iff_getElem.1 hx
  have hp : ∀ w, Sat (bods t l :: F) w → ∃ rest, Sat (sl l[i].1 t 1 l[i].2.length (bytesV l[i].2) :: rest) w := fun w h => ⟨_, h.unstar.pull i (by rw [List.getElem?_append_left (by simpa using hi)]; simp [hi])⟩
  obtain ⟨rest, h1⟩ := hp w h
  obtain ⟨p, c, he, hc, hl, hr⟩ := RdS.of_sl h1
  refine ⟨p, c, he, hc, hl, fun h0 => ?_⟩
  obtain ⟨b, o, hpb, _⟩ := hr h0
  refine ⟨b, o, hpb, fun w' hw' j u hu => ?_⟩
  obtain ⟨rest', h2⟩ := hp w' hw'
  obtain ⟨p2, c2, he2, _, _, hr2⟩ := RdS.of_sl h2
  rw [he] at he2
  injection he2 with e1 e2 e3
  obtain ⟨b2, o2, hpb2, hrd⟩ := hr2 h0
  rw [← e1, hpb] at hpb2
  injection hpb2 with e4
  injection e4 with e5 e6
  subst e5; subst e6
  exact hrd w' h2 j u hu
end
end Go.Sl

namespace Go.Proofs.YtkccjgllanpebaaGreatDoor
open Go Go.Sl
attribute [local irreducible] LooksAt
def Dev.back (D : Dev) (i : Nat) : Nat × List UInt8 := D.O.getD (D.O.length - 1 - i) (0, [])
theorem Dev.back_eq {D : Dev} {i : Nat} (h : i < D.O.length) : D.O[D.O.length - 1 - i]'(by omega) = D.back i := by
  simp [Dev.back, List.getD_eq_getElem?_getD, List.getElem?_eq_getElem (show D.O.length - 1 - i < D.O.length by omega)]
theorem int_eq {a b : Int} (h : a = b) : some (Value.int .i64 a) = some (Value.int .i64 b) := by rw [h]
theorem newest1_spec {p q : Nat} {D : Dev} (hD : D.ok) (hO : D.O.length ≤ 100000) {J : Nat → World → Prop} {Jx : World → Prop} (hJ : ∀ i w, i ≤ D.O.length → J i w → ∃ F, Sat (dev p D :: blk q [ptr p] 91 :: F) w) :
    Iter Tryz.prog 175 [ptr q] J Jx (fun i => .agg (opB (D.back i)).toArray) D.O.length := by
  intro L w hround h0
  refine Ret.enter [(true, .func (.yield L) #[] #[]), (true, ptr q)] _ Tryz.func175 rfl Tryz.ntmps175 rfl ?_
  obtain ⟨F, hs⟩ := hJ 0 w (by omega) h0
  obtain ⟨vs, vo, hs⟩ := dev_open hs
  obtain ⟨_, qo, co, rfl, hco⟩ := (hs.pull 2 rfl).sl_len
  repeat first | refine zg tab rfl rfl ?_ | refine zl (za hs rfl) ?_
  refine MC.loop (σ := Nat) (fun i => [(0, true, .func (.yield L) #[] #[]), (1, true, ptr q), (3, true, int ((D.O.length : Int) - 1 - (i : Nat)))])
    (fun i w => i ≤ D.O.length ∧ J i w) (fun i => D.O.length - i) 0 ?_ ⟨by omega, h0⟩ ?_
  · exact ⟨rfl, rfl, int_eq (by omega), trivial⟩
  rintro i w ⟨hi, hj⟩
  obtain ⟨F, hs⟩ := hJ i w hi hj
  obtain ⟨vs, vo, hs⟩ := dev_open hs
  obtain ⟨_, qo, co, rfl, hco⟩ := (hs.pull 2 rfl).sl_len
  repeat first | refine zg tab rfl rfl ?_ | refine zl (za hs rfl) ?_
  refine MC.cond rfl (fun hlt => ?_) (fun hge => ?_)
  · have hlt : i < D.O.length := by omega
    have hr0 : RdS (sl (.slice qo D.O.length co) 251 257 D.O.length (opV D.O) :: blk q [ptr p] 91 :: F) 257 (.slice qo D.O.length co) D.O.length (opV D.O) := RdS.of_sl (hs.tail.tail)
    obtain ⟨q', c', e1, h1, h2, h3⟩ := id hr0
    injection e1 with e1
    subst e1
    obtain ⟨bo, oo, rfl, hr⟩ := h3 (by omega)
    have hx1 : (D.back i).2.length = 256 := by rw [← Dev.back_eq hlt]; exact (hD.op _ (List.getElem_mem _)).1
    have hi2 : ((D.O.length : Int) - 1 - (i : Nat)).toNat = D.O.length - 1 - i := by omega
    repeat first | refine zg tab rfl rfl ?_ | refine zl (za hs rfl) ?_
    refine MC.la true (la_loadV_rd hr hs (j := ((D.O.length : Int) - 1 - (i : Nat)).toNat * 257) rfl (vs := opB (D.back i)) (by rw [hi2, ← Dev.back_eq hlt]; exact rows_get (fun x hx => opB_length (hD.op x hx).1) _) (opB_length hx1) rfl) rfl ?_
    refine MC.does true (does_yield rfl rfl (hround i w hlt hj)) rfl ?_
    rintro _ w (⟨rfl, hj⟩ | ⟨rfl, hj⟩)
    · repeat first | refine zg tab rfl rfl ?_ | refine zl (za hs rfl) ?_
      exact MC.again (i + 1) ⟨rfl, rfl, int_eq (by omega), trivial⟩ ⟨by omega, hj⟩ (by omega)
    · repeat first | refine zg tab rfl rfl ?_ | refine zl (za hs rfl) ?_
      refine MC.ret rfl ?_
      exact .inr hj
  · have hi' : i = D.O.length := by omega
    subst hi'
    repeat first | refine zg tab rfl rfl ?_ | refine zl (za hs rfl) ?_
    refine MC.end_ rfl ?_
    exact .inl hj
theorem newest_spec {F : List Assn} {p : Nat} {w : World} (hs : Sat F w) :
    Ret Tryz.prog 170 [ptr p] w fun v w' => ∃ q, v = .func (.func 175) #[] #[ptr q] ∧ Sat (blk q [ptr p] 91 :: F) w' := by
  refine Ret.enter [(true, ptr p)] _ Tryz.func170 rfl Tryz.ntmps170 rfl ?_
  repeat first | refine zg tab rfl rfl ?_ | refine zl (za hs rfl) ?_
  refine MC.does true (does_box hs rfl rfl) rfl ?_; rintro _ w ⟨_, rfl, hs⟩
  repeat first | refine zg tab rfl rfl ?_ | refine zl (za hs rfl) ?_
  refine MC.pure (f := true) (po_makeFunc (vf := []) (vc := [ptr _]) rfl rfl) rfl ?_
  repeat first | refine zg tab rfl rfl ?_ | refine zl (za hs rfl) ?_
  refine MC.ret rfl ?_
  exact ⟨_, rfl, hs⟩
theorem dropPre {pre l : List Assn} {w : World} (h : Sat (pre ++ l) w) : Sat l w := by
  induction pre with
  | nil => exact h
  | cons a pre ih => exact ih h.tail
def Dev.get (D : Dev) (k : Nat) : List UInt8 := (laid D.S D.O).getD k []
def Dev.red (D : Dev) : Dev := { D with reads := IntKind.i64.wrap (D.reads + 1) }
theorem Dev.red_ok {D : Dev} (hD : D.ok) : D.red.ok := { hD with }
theorem laid_append (S : List (List UInt8)) (a b : List (Nat × List UInt8)) : laid S (a ++ b) = laid (laid S a) b := List.foldl_append
theorem laid_other {k : Nat} (O : List (Nat × List UInt8)) : ∀ (S : List (List UInt8)), (∀ x ∈ O, x.1 ≠ k) → (laid S O)[k]? = S[k]? := by
  induction O with
  | nil => intro S _; rfl
  | cons x O ih =>
    intro S h
    refine (ih _ fun y hy => h y (List.mem_cons_of_mem _ hy)).trans ?_
    rw [List.getElem?_set_ne (h x List.mem_cons_self)]
theorem Dev.back_later {D : Dev} {i k : Nat} (h : ∀ j, j < i → (D.back j).1 ≠ k) (hi : i ≤ D.O.length) : ∀ x ∈ D.O.drop (D.O.length - i), x.1 ≠ k := by
  intro x hx
  obtain ⟨m, hm, rfl⟩ := List.getElem_of_mem hx
  rw [List.length_drop] at hm
  rw [List.getElem_drop]
  have := h (i - 1 - m) (by omega)
  rw [← Dev.back_eq (by omega)] at this
  have e : D.O.length - 1 - (i - 1 - m) = D.O.length - i + m := by omega
  simpa [e] using this
theorem Dev.get_none {D : Dev} {k : Nat} (h : ∀ j, j < D.O.length → (D.back j).1 ≠ k) (hk : k < D.S.length) : D.get k = D.S[k] := by
  have := laid_other D.O D.S (k := k) (by simpa using Dev.back_later h (Nat.le_refl _))
  simp [Dev.get, List.getD_eq_getElem?_getD, this, hk]
theorem Dev.get_back {D : Dev} {i k : Nat} (h : ∀ j, j < i → (D.back j).1 ≠ k) (hi : i < D.O.length) (e : (D.back i).1 = k) (hk : k < D.S.length) : D.get k = (D.back i).2 := by
  have h1 := Dev.back_later h (by omega)
  have e1 : D.O = D.O.take (D.O.length - 1 - i) ++ (D.back i :: D.O.drop (D.O.length - i)) := by
    conv => lhs; rw [← List.take_append_drop (D.O.length - 1 - i) D.O]
    rw [List.drop_eq_getElem_cons (by omega), Dev.back_eq hi, show D.O.length - 1 - i + 1 = D.O.length - i by omega]
  have e2 : laid D.S D.O = laid ((laid D.S (D.O.take (D.O.length - 1 - i))).set k (D.back i).2) (D.O.drop (D.O.length - i)) := by
    conv => lhs; rw [e1]
    rw [laid_append, ← e]; rfl
  rw [Dev.get, e2, List.getD_eq_getElem?_getD, laid_other _ _ h1, List.getElem?_set_self (by rw [laid_length]; exact hk)]
  rfl
theorem get_length {D : Dev} (hD : D.ok) {k : Nat} (hk : k < D.S.length) : (D.get k).length = 256 := by
  have h := laid_sec D.O D.S hD.sec fun x hx => (hD.op x hx).1
  have hl : k < (laid D.S D.O).length := by rw [laid_length]; exact hk
  rw [Dev.get, List.getD_eq_getElem?_getD, List.getElem?_eq_getElem hl]
  exact h _ (List.getElem_mem hl)
theorem read_spec {F : List Assn} {p : Nat} {D : Dev} {w : World} {k : Int} (hs : Sat (dev p D :: F) w) (hD : D.ok) (hO : D.O.length ≤ 100000) :
    Ret Tryz.prog 155 [ptr p, int k] w fun v w' => if D.wrong k 256 = 0 then ∃ vb, v = .tuple #[vb, int 0] ∧ Sat (sl vb 5 1 256 (bytesV (D.get k.toNat)) :: dev p D.red :: F) w' else v = .tuple #[.slice none 0 0, int (D.wrong k 256)] ∧ Sat (dev p D :: F) w' := by
  refine Ret.enterM [(true, ptr p), (true, int k)] _ Tryz.func155 rfl Tryz.ntmps155 rfl ?_
  repeat first | refine zg tab rfl rfl ?_ | refine zl (za hs rfl) ?_
  refine MC.does true (does_box hs rfl rfl) rfl ?_; rintro _ w ⟨b3, rfl, hs⟩
  have hready := ready_spec (hs.tail) hD k 256
  repeat first | refine zg tab rfl rfl ?_ | refine zl (za hs rfl) ?_
  refine zc rfl (hready) ?_
  rintro _ w' ⟨rfl, rfl⟩
  repeat first | refine zg tab rfl rfl ?_ | refine zl (za hs rfl) ?_
  refine MC.cond rfl (fun h => ?_) (fun h => ?_)
  · repeat first | refine zg tab rfl rfl ?_ | refine zl (za hs rfl) ?_
    refine MC.retM0 rfl ?_
    rw [if_neg h]
    exact ⟨rfl, hs.tail⟩
  have h := Decidable.not_not.1 h
  simp only [h, if_true]
  obtain ⟨hk0, hk1, _, hf⟩ := Dev.wrong_zero.1 h
  obtain ⟨vs, vo, hs⟩ := dev_open hs.swap
  obtain ⟨hsl, qs, cs, rfl, hcs⟩ := (hs.pull 1 rfl).sl_len
  refine zg tab rfl rfl ?_
  refine MC.la false (la_load1 hs rfl (by rfl)) rfl ?_
  refine MC.pure (f := true) (po_bin rfl rfl (br_add rfl)) rfl ?_
  repeat first | refine zg tab rfl rfl ?_ | refine zl (za hs rfl) ?_
  refine MC.does true (does_store1 hs rfl rfl rfl (by first | decide | (simp; done) | (simp; omega))) rfl ?_; intro _ w hs
  repeat first | refine zg tab rfl rfl ?_ | refine zl (za hs rfl) ?_
  refine MC.draw hs [0,1,2,3,4,5,6,7,8] (by rfl) ?_; intro w hs
  have hr0 := RdS.of_sl hs.tail
  obtain ⟨q', c', e1, h1, h2, h3⟩ := id hr0
  injection e1 with e1
  subst e1
  obtain ⟨bo, oo, rfl, hr⟩ := h3 (by omega)
  repeat first | refine zg tab rfl rfl ?_ | refine zm (za hs rfl) ?_
  have hk : k.toNat < D.S.length := by omega
  have hsk : (D.S[k.toNat]).length = 256 := hD.sec _ (List.getElem_mem hk)
  refine MC.laD true (la_loadV_rd hr hs (j := k.toNat * 256) rfl (vs := bytesV D.S[k.toNat]) (rows_get (fun x hx => by simp [hD.sec x hx]) hk) (by simp [hsk]) rfl) rfl ?_
  refine MC.doesK true (does_alloc hs) rfl rfl rfl ?_
  rintro _ w ⟨b7, rfl, hs⟩
  refine ⟨⟨Suf.sat hs, At.sat hs, At.sat hs, trivial⟩, ?_⟩
  refine MC.doesD true (does_store (vs := bytesV D.S[k.toNat]) hs rfl rfl rfl (by simp [hsk]) (bytesV_one _) (by simp)) rfl rfl rfl rfl ?_
  intro _ w hs
  rw [splice_all (by simp [hsk])] at hs
  have hs := hs.pickF 5 [1, 2, 3, 0, 4] rfl rfl
  have hs : Sat (dev p D.red :: blk b7 (bytesV D.S[k.toNat]) 184 :: blk b3 [int k] 3 :: F) w := dev_shut (vs := .slice (some ⟨bo, oo, none⟩) D.S.length cs) (vo := vo) hs
  repeat first | refine zg tab rfl rfl ?_ | refine zl (za hs rfl) ?_
  refine zc rfl (newest_spec hs) ?_
  rintro _ w ⟨q, rfl, hs⟩
  repeat first | refine zg tab rfl rfl ?_ | refine zl (za hs rfl) ?_
  have hg : (D.get k.toNat).length = 256 := get_length hD hk
  refine MC.rangeFunc rfl (lb := [ptr q]) (fun i => fact (∀ j, j < i → (D.back j).1 ≠ k.toNat) :: dev p D.red :: blk q [ptr p] 91 :: blk b7 (bytesV D.S[k.toNat]) 184 :: blk b3 [int k] 3 :: F)
    D.O.length (fun i => .agg (opB (D.back i)).toArray) [.exit 0] (fun _ => dev p D.red :: blk q [ptr p] 91 :: blk b7 (bytesV (D.get k.toNat)) 184 :: blk b3 [int k] 3 :: F)
    rfl rfl (Sat.fact_iff.2 ⟨fun j hj => absurd hj (by omega), hs.swap⟩) ?_ ?_ ?_ ?_
  · intro pre Jx
    exact newest1_spec (D := D.red) (Dev.red_ok hD) hO fun i w hi h => ⟨_, (Sat.fact_iff.1 (dropPre h)).2⟩
  · intro L E i rec w hi hrec hs
    have hx1 : (D.back i).2.length = 256 := by rw [← Dev.back_eq hi]; exact (hD.op _ (List.getElem_mem _)).1
    repeat first | refine zg tab rfl rfl ?_ | refine zl (za hs rfl) ?_
    refine MC.does true (does_alloc hs) rfl ?_; rintro _ w ⟨_, rfl, hs⟩
    refine MC.does true (does_store (vs := opB (D.back i)) hs rfl rfl rfl (opB_length hx1) (opB_one _) (by simp)) rfl ?_
    intro _ w hs
    rw [splice_all (by simp [opB_length hx1])] at hs
    repeat first | refine zg tab rfl rfl ?_ | refine zl (za hs rfl) ?_
    refine MC.begin hrec hs.swap fun w hs => ?_
    repeat first | refine zg tab rfl rfl ?_ | refine zl (za hs rfl) ?_
    refine MC.cond rfl (fun he => ?_) (fun he => ?_)
    · have he' : (D.back i).1 = k.toNat := by omega
      repeat first | refine zg tab rfl rfl ?_ | refine zl (za hs rfl) ?_
      refine MC.la true (la_loadV hs rfl (vs := bytesV (D.back i).2) (by exact List.take_of_length_le (by simp [opB_length hx1])) (by simp [hx1]) rfl) rfl ?_
      refine MC.does true (does_store (vs := bytesV (D.back i).2) hs rfl rfl rfl (by simp [hx1]) (bytesV_one _) (by simp [hsk])) rfl ?_
      intro _ w hs
      rw [splice_all (by simp [hx1, hsk])] at hs
      refine zg tab rfl rfl ?_
      have hs := hs.pickF 4 [0, 2, 3] rfl rfl
      obtain ⟨hf, hs⟩ := Sat.fact_iff.1 (hs.pull 2 rfl)
      refine MC.stop rfl (List.mem_singleton.2 rfl) ?_
      rw [Dev.get_back hf hi he' hk]
      exact hs
    · repeat first | refine zg tab rfl rfl ?_ | refine zl (za hs rfl) ?_
      have hs := hs.pickF 4 [0, 2, 3] rfl rfl
      obtain ⟨hf, hs⟩ := Sat.fact_iff.1 (hs.pull 2 rfl)
      have hf2 : ∀ j, j < i + 1 → (D.back j).1 ≠ k.toNat := fun j hj => by
        rcases Nat.lt_or_ge j i with h' | h'
        · exact hf j h'
        · obtain rfl : j = i := by omega
          omega
      have hs := (Sat.fact_iff.2 ⟨hf2, hs⟩).pickF 3 [1, 2, 0] rfl rfl
      exact MC.more hrec hs
  · intro E w hs
    obtain ⟨hf, hs⟩ := Sat.fact_iff.1 (hs.pull 1 rfl)
    rw [← Dev.get_none hf hk] at hs
    have hs := hs.pickF 5 [0, 3, 1, 4] rfl rfl
    (try dsimp only [List.eraseIdx, List.cons_append, List.nil_append, List.drop_succ_cons, List.drop_zero, List.append_eq] at hs)
    repeat first | refine zg tab rfl rfl ?_ | refine zl (za hs rfl) ?_
    refine MC.does true (does_buildSlice0 hs) rfl ?_
    rintro _ w ⟨b9, rfl, hs⟩
    have hs := Sat.sl_mk (xs := []) (spare := []) (n := 0) (c := 0) (size := 1) hs (Nat.le_refl _) rfl rfl
    refine MC.pure (f := true) (po_sliceArr (n := 256) rfl) rfl ?_
    refine MC.does true (does_append hs rfl rfl (src_at (by simp [hg]) (bytesV_one _)) (by omega) (by omega)) rfl ?_
    intro va w hs
    repeat first | refine zg tab rfl rfl ?_ | refine zl (za hs rfl) ?_
    have hs := hs.pickF 5 [1, 0, 3] rfl rfl
    exact MC.retM rfl hs fun w' hs => ⟨va, rfl, hs⟩
  · intro c E w hc hs
    rw [List.mem_singleton.1 hc]
    refine zg tab rfl rfl ?_
    have hs := hs.pickF 5 [0, 3, 1, 4] rfl rfl
    (try dsimp only [List.eraseIdx, List.cons_append, List.nil_append, List.drop_succ_cons, List.drop_zero, List.append_eq] at hs)
    repeat first | refine zg tab rfl rfl ?_ | refine zl (za hs rfl) ?_
    refine MC.does true (does_buildSlice0 hs) rfl ?_
    rintro _ w ⟨b9, rfl, hs⟩
    have hs := Sat.sl_mk (xs := []) (spare := []) (n := 0) (c := 0) (size := 1) hs (Nat.le_refl _) rfl rfl
    refine MC.pure (f := true) (po_sliceArr (n := 256) rfl) rfl ?_
    refine MC.does true (does_append hs rfl rfl (src_at (by simp [hg]) (bytesV_one _)) (by omega) (by omega)) rfl ?_
    intro va w hs
    repeat first | refine zg tab rfl rfl ?_ | refine zl (za hs rfl) ?_
    have hs := hs.pickF 5 [1, 0, 3] rfl rfl
    exact MC.retM rfl hs fun w' hs => ⟨va, rfl, hs⟩
end Go.Proofs.YtkccjgllanpebaaGreatDoor
