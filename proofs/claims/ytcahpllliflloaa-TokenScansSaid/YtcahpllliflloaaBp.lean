/-
  A slice of whatever plain elements, as a row hands it in: a list that is read, element by element. Nothing of a program stands here.
-/
import Derived.Test.YtcahpllliflloaaBo
set_option linter.unusedVariables false
set_option linter.unusedSimpArgs false
namespace Go.Sl
open Go Go.ChangeShapes Go.WideShapes
section
variable {H : Type} {enc : TypeId × Value → H} {P : Program} {W : World}
theorem rows_cell {α : Type} {f : α → List Value} {c : Nat} {xs : List α} (hc : ∀ x ∈ xs, (f x).length = c) {k r : Nat} (hk : k < xs.length) (hr : r < c) : (xs.flatMap f)[k * c + r]? = (f xs[k])[r]? := by
  have h := rows_get hc hk
  have h2 : (((xs.flatMap f).drop (k * c)).take c)[r]? = (f xs[k])[r]? := by rw [h]
  rw [List.getElem?_take, if_pos hr, List.getElem?_drop] at h2
  exact h2
/-- Elements are told by 'row'; each has c cells and is 'good'. -/
theorem open_slice_rd {α : Type} [Inhabited α] {t e : TypeId} {c : Nat} (row : α → List Value) (good : α → Prop) (ht : P.underlying t = some (.slice e)) (hc : P.cellsOf e = c) (h0 : 0 < c)
    (dec : ∀ (n : Nat) (cs : List Value) (x : DataW H × List MemPlace), DataW.trod enc P W 0 (fun _ => true) true n e cs = some x → ∃ y, cs = row y ∧ (row y).length = c ∧ good y)
    {n : Nat} {cs : List Value} {x : DataW H × List MemPlace} (h : DataW.trod enc P W 0 (fun _ => true) true n t cs = some x) :
    ∃ (q : Option Addr) (k : Nat) (ys : List α), cs = [.slice q ys.length k] ∧ ys.length ≤ k ∧ k ≤ maxLen ∧ (∀ y ∈ ys, good y ∧ (row y).length = c) ∧ RdS [old W] c (.slice q ys.length k) ys.length (ys.flatMap row) := by
  rcases DataW.trod_slice ht h with ⟨rfl, rfl⟩ | ⟨a, len, cap, elems, rest, n', hn, rfl, rfl, hb, hl, hm, hlen, hel, _, _⟩
  · exact ⟨none, 0, [], rfl, Nat.le_refl _, Nat.zero_le _, fun y hy => absurd hy (by simp), ⟨none, 0, rfl, Nat.le_refl _, by simp, fun h => by simp at h⟩⟩
  subst hc
  have each : ∀ i, i < len → ∃ y : α, W.cells? 0 (a.add (i * P.cellsOf e)) (P.cellsOf e) = some (row y) ∧ (row y).length = P.cellsOf e ∧ good y := fun i hi => by
    have h1 := hel i hi
    rw [List.getElem?_eq_getElem (show i < elems.length by omega)] at h1
    obtain ⟨cs', h2, h3⟩ := Option.bind_eq_some_iff.1 h1
    obtain ⟨y, rfl, hy, hg⟩ := dec n' cs' _ h3
    exact ⟨y, h2, hy, hg⟩
  obtain ⟨f, hf⟩ := Go.Deep.choose_lt each
  have hys : ((List.range len).map f).length = len := by simp
  have hrow : ∀ y ∈ (List.range len).map f, good y ∧ (row y).length = P.cellsOf e := fun y hy => by
    obtain ⟨i, hi, rfl⟩ := List.mem_map.1 hy
    obtain ⟨_, h2, h3⟩ := hf i (List.mem_range.1 hi)
    exact ⟨h3, h2⟩
  have hxl : (((List.range len).map f).flatMap row).length = len * P.cellsOf e := by
    rw [rows_length (fun y hy => (hrow y hy).2), hys]
  refine ⟨some a, cap, (List.range len).map f, by rw [hys], by rw [hys]; exact hl, hm, hrow, some a, cap, by rw [hys], by rw [hys]; exact hl, by rw [hxl, hys], fun hp => rd_old (fun j hj => ?_) (by rw [hxl]; rw [hys] at hp; exact hp)⟩
  rw [hxl] at hj
  have hi : j / P.cellsOf e < len := Nat.div_lt_of_lt_mul (by rw [Nat.mul_comm]; exact hj)
  have hr : j % P.cellsOf e < P.cellsOf e := Nat.mod_lt _ h0
  have hj' : j / P.cellsOf e * P.cellsOf e + j % P.cellsOf e = j := by rw [Nat.mul_comm]; exact Nat.div_add_mod _ _
  have h1 := rows_cell (f := row) (xs := (List.range len).map f) (fun y hy => (hrow y hy).2) (k := j / P.cellsOf e) (r := j % P.cellsOf e) (by rw [hys]; exact hi) hr
  rw [hj'] at h1
  rw [h1]
  obtain ⟨h2, _, _⟩ := hf _ hi
  obtain ⟨_, _, h3⟩ := World.cells?_some h2
  have h4 := h3 _ hr
  rw [Go.Deep.add_add, hj'] at h4
  rw [h4]
  simp
theorem byte_of {a : Int} (w : (Lit.int .u8 a).wf = true) : Value.int .u8 a = .int .u8 ((UInt8.ofNat a.toNat).toNat : Int) := by
  have h : 0 ≤ a ∧ a ≤ 255 := by simpa [Lit.wf, IntKind.min, IntKind.max, IntKind.signed, IntKind.bits] using w
  have e : ((UInt8.ofNat a.toNat).toNat : Int) = a := by
    rw [UInt8.toNat_ofNat']
    omega
  rw [e]
theorem flat_one {α : Type} (f : α → Value) (l : List α) : l.flatMap (fun x => [f x]) = l.map f := by
  induction l with
  | nil => rfl
  | cons x l ih => simp [ih]
theorem open_bytes_rd {t e : TypeId} (ht : P.underlying t = some (.slice e)) (he : P.underlying e = some (.int .u8)) (hc : P.cellsOf e = 1) {n : Nat} {cs : List Value} {x : DataW H × List MemPlace}
    (h : DataW.trod enc P W 0 (fun _ => true) true n t cs = some x) : ∃ (q : Option Addr) (k : Nat) (l : List UInt8), cs = [.slice q l.length k] ∧ l.length ≤ k ∧ k ≤ maxLen ∧ RdS [old W] 1 (.slice q l.length k) l.length (bytesV l) := by
  obtain ⟨q, k, l, h1, h2, h3, _, h4⟩ := open_slice_rd (α := UInt8) (fun c => [.int .u8 (c.toNat : Int)]) (fun _ => True) ht hc (by omega) (fun n cs x hx => by
    obtain ⟨m, rfl, _, hw⟩ := DataW.trod_int he hx
    exact ⟨UInt8.ofNat m.toNat, by rw [byte_of hw], rfl, trivial⟩) h
  rw [flat_one] at h4
  exact ⟨q, k, l, h1, h2, h3, h4⟩
theorem open_bools_rd' {t e : TypeId} (ht : P.underlying t = some (.slice e)) (he : P.underlying e = some .bool) (hc : P.cellsOf e = 1) {n : Nat} {cs : List Value} {x : DataW H × List MemPlace}
    (h : DataW.trod enc P W 0 (fun _ => true) true n t cs = some x) : ∃ (q : Option Addr) (k : Nat) (l : List Bool), cs = [.slice q l.length k] ∧ l.length ≤ k ∧ k ≤ maxLen ∧ RdS [old W] 1 (.slice q l.length k) l.length (l.map Value.bool) := by
  obtain ⟨q, k, l, h1, h2, h3, _, h4⟩ := open_slice_rd (α := Bool) (fun c => [.bool c]) (fun _ => True) ht hc (by omega) (fun n cs x hx => by
    obtain ⟨m, rfl, _⟩ := DataW.trod_bool he hx
    exact ⟨m, rfl, rfl, trivial⟩) h
  rw [flat_one] at h4
  exact ⟨q, k, l, h1, h2, h3, h4⟩
theorem open_ints_rd {t e : TypeId} {kd : IntKind} (ht : P.underlying t = some (.slice e)) (he : P.underlying e = some (.int kd)) (hc : P.cellsOf e = 1) {n : Nat} {cs : List Value} {x : DataW H × List MemPlace}
    (h : DataW.trod enc P W 0 (fun _ => true) true n t cs = some x) : ∃ (q : Option Addr) (k : Nat) (l : List Int), cs = [.slice q l.length k] ∧ l.length ≤ k ∧ k ≤ maxLen ∧ (∀ m ∈ l, (Lit.int kd m).wf = true) ∧ RdS [old W] 1 (.slice q l.length k) l.length (l.map (Value.int kd)) := by
  obtain ⟨q, k, l, h1, h2, h3, h5, h4⟩ := open_slice_rd (α := Int) (fun c => [.int kd c]) (fun m => (Lit.int kd m).wf = true) ht hc (by omega) (fun n cs x hx => by
    obtain ⟨m, rfl, _, hw⟩ := DataW.trod_int he hx
    exact ⟨m, rfl, rfl, hw⟩) h
  rw [flat_one] at h4
  exact ⟨q, k, l, h1, h2, h3, fun m hm => (h5 m hm).1, h4⟩
/-! #### Arguments of a row -/
theorem trod_slice1 {t : TypeId} {v : Value} {d : DataW H} {p : List MemPlace} (hv : ∃ q n c, v = .slice q n c) (h : DataW.Trod enc P W 0 (fun _ => true) true t v d p) :
    ∃ n, DataW.trod enc P W 0 (fun _ => true) true n t [v] = some (d, p) := by
  obtain ⟨q, n, c, rfl⟩ := hv
  obtain ⟨fuel, h⟩ := h
  exact ⟨fuel, by simpa [Value.cells] using h⟩
theorem trod_struct1 {t : TypeId} {v : Value} {d : DataW H} {p : List MemPlace} {cs : Array Value} (hv : v = .agg cs) (h : DataW.Trod enc P W 0 (fun _ => true) true t v d p) :
    ∃ n, DataW.trod enc P W 0 (fun _ => true) true n t cs.toList = some (d, p) := by
  subst hv
  obtain ⟨fuel, h⟩ := h
  exact ⟨fuel, by simpa [Value.cells] using h⟩
end
/-! #### What reads, reads with more about it -/
theorem RdS.up {l F : List Assn} {size n : Nat} {v : Value} {xs : List Value} (h : RdS F size v n xs) [hF : Suf l F] : RdS l size v n xs := by
  obtain ⟨p, c, rfl, hc, hl, hp⟩ := h
  exact ⟨p, c, rfl, hc, hl, fun h0 => by obtain ⟨b, o, rfl, hr⟩ := hp h0; exact ⟨b, o, rfl, Rd.suf hr⟩⟩
theorem RdS.at_ {F : List Assn} {size n c m : Nat} {q : Option Addr} {xs : List Value} (h : RdS F size (.slice q n c) m xs) (h0 : 0 < n * size) : ∃ b o, q = some ⟨b, o, none⟩ ∧ Rd F b o xs := by
  obtain ⟨p, c', e, hc, hl, hp⟩ := h
  injection e with e1 e2 e3
  subst e1; subst e2
  exact hp h0
theorem RdS.shape {F : List Assn} {size n : Nat} {v : Value} {xs : List Value} (h : RdS F size v n xs) : ∃ q c, v = .slice q n c ∧ n ≤ c ∧ xs.length = n * size := by
  obtain ⟨p, c', e, hc, hl, hp⟩ := h
  exact ⟨p, c', e, hc, hl⟩
end Go.Sl
