/-
  Operations that look at memory, turn it, or make more of it. Nothing of a program stands here.
-/
import Derived.Test.YtcahpllliflloaaOq
import Derived.Deep.AppendSrc
set_option linter.unusedVariables false
set_option linter.unusedSimpArgs false
namespace Go.Sl
open Go

/-- Among the parts one says all of block b; 'G': the parts with another in its place. -/
class At (l : List Assn) (b : Nat) (cs : outParam (List Value)) (t : outParam TypeId) (G : outParam (List Value → List Assn)) : Prop where
  out : ∃ i, l[i]? = some (blk b cs t) ∧ ∀ cs', G cs' = l.set i (blk b cs' t)
instance At.head (l : List Assn) (b : Nat) (cs : List Value) (t : TypeId) : At (blk b cs t :: l) b cs t (fun cs' => blk b cs' t :: l) := ⟨0, rfl, fun _ => rfl⟩
instance (priority := low) At.tail (A : Assn) (l : List Assn) (b : Nat) (cs : List Value) (t : TypeId) (G : List Value → List Assn) [h : At l b cs t G] : At (A :: l) b cs t (fun cs' => A :: G cs') := by
  obtain ⟨i, h1, h2⟩ := h.out
  exact ⟨i + 1, h1, fun cs' => by rw [h2]; rfl⟩
section
variable {l : List Assn} {b : Nat} {cs cs' : List Value} {t : TypeId} {G : List Value → List Assn} {w w' : World}
theorem At.sat [h : At l b cs t G] (hs : Sat l w) : Sat [blk b cs t] w := by
  obtain ⟨i, h1, _⟩ := h.out
  exact hs.alone_at i h1
theorem At.upd [h : At l b cs t G] (hs : Sat l w) (f : ∀ rest, Sat (blk b cs t :: rest) w → Sat (blk b cs' t :: rest) w') : Sat (G cs') w' := by
  obtain ⟨i, h1, h2⟩ := h.out
  rw [h2]
  exact hs.set_at i h1 f
end
/-- A list of parts ends in another. -/
class Suf (l m : List Assn) : Prop where
  out : ∀ w, Sat l w → Sat m w
instance Suf.here (l : List Assn) : Suf l l := ⟨fun _ h => h⟩
instance (priority := low) Suf.there (A : Assn) (l m : List Assn) [h : Suf l m] : Suf (A :: l) m := ⟨fun k hk => h.out k hk.tail⟩
theorem Suf.sat {l m : List Assn} [h : Suf l m] {w : World} (hs : Sat l w) : Sat m w := h.out _ hs

/-- From these parts on, wherever, the cells from an address on read as a list. -/
def Rd (F : List Assn) (b o : Nat) (xs : List Value) : Prop := ∀ w, Sat F w → ∀ (j : Nat) (u : Value), xs[j]? = some u → w.cell? ⟨b, o + j, none⟩ = some u
/-- A slice that comes in, n elements of 'size' cells each: it reads as a list. -/
def RdS (F : List Assn) (size : Nat) (v : Value) (n : Nat) (xs : List Value) : Prop :=
  ∃ p c, v = .slice p n c ∧ n ≤ c ∧ xs.length = n * size ∧ (0 < n * size → ∃ b o, p = some ⟨b, o, none⟩ ∧ Rd F b o xs)
theorem Rd.of_at {l : List Assn} {b : Nat} {cs : List Value} {t : TypeId} {G : List Value → List Assn} [h : At l b cs t G] : Rd l b 0 cs := fun w hs j u hu => by
  rw [(At.sat (h := h) hs).blk_cell (0 + j)]; simpa using hu
theorem Rd.suf {l m : List Assn} [h : Suf l m] {b o : Nat} {xs : List Value} (hr : Rd m b o xs) : Rd l b o xs := fun w hs => hr w (Suf.sat hs)

section
variable {P : Program} {r : Option Nat} {fr : Fr} {d : Option Tmp} {ty : TypeId} {pos : String} {aft : Array Edge} {g : Option (Nat × Bool)} {v u z vx vy : Value} {x y c i : Operand} {t s e : TypeId} {w : World} {l F : List Assn} {b o : Nat} {cs : List Value} {G : List Value → List Assn}

/-! ### Loads -/
theorem la_load1 {bytes : Nat} {zero : List Value} [hI : TyI P t false 1 bytes zero] [hA : At l b cs e G] (hs : Sat l w) (hx : ev fr x = some (.pointer (some ⟨b, o, none⟩))) (h : cs[o]? = some v) : LooksAt P ⟨d, .load t x, ty, pos, aft, g⟩ fr w (Sat [blk b cs e]) v := by
  refine ⟨fun n ds a hf w hC => ?_, At.sat hs⟩
  have hc := hC.blk_cell o
  have := run_loadVar (P := P) (t := t) (w := w) (b := b) o [v] rfl (fun j u hj => by
    cases j with
    | zero => simp at hj; subst hj; rw [Nat.add_zero, hc, h]
    | succ j => simp at hj)
  simp [execOp, hf.ev hx, Instr.loadAt, Instr.sureAddr, this, valOf]
theorem la_load {agg : Bool} {size bytes : Nat} {zero : List Value} [hI : TyI P t agg size bytes zero] [hA : At l b cs e G] (hs : Sat l w) (hx : ev fr x = some (.pointer (some ⟨b, o, none⟩))) (h : o + size ≤ cs.length) : LooksAt P ⟨d, .load t x, ty, pos, aft, g⟩ fr w (Sat [blk b cs e]) (valOf agg ((cs.drop o).take size)) := by
  refine ⟨fun n ds a hf w hC => ?_, At.sat hs⟩
  have := run_loadVar (P := P) (t := t) (w := w) (b := b) o ((cs.drop o).take size) (by simp; omega) (fun j u hj => by
    rw [hC.blk_cell (o + j)]
    rw [List.getElem?_take] at hj
    split at hj
    · rwa [List.getElem?_drop] at hj
    · cases hj)
  simp [execOp, hf.ev hx, Instr.loadAt, Instr.sureAddr, this]
/-- The same, what is read told by an equation. -/
theorem la_loadV {agg : Bool} {size bytes : Nat} {zero : List Value} [hI : TyI P t agg size bytes zero] [hA : At l b cs e G] (hs : Sat l w) (hx : ev fr x = some (.pointer (some ⟨b, o, none⟩))) {vs : List Value} (h : (cs.drop o).take size = vs) (hl : vs.length = size) (h0 : Nat.blt 0 size = true) : LooksAt P ⟨d, .load t x, ty, pos, aft, g⟩ fr w (Sat [blk b cs e]) (valOf agg vs) := by
  subst h
  refine la_load hs hx ?_
  simp only [List.length_take, List.length_drop] at hl
  have h0 : 0 < size := by simpa using h0
  omega
theorem la_loadV_rd {agg : Bool} {size bytes : Nat} {zero : List Value} [hI : TyI P t agg size bytes zero] {xs : List Value} {q : Nat} (hr : Rd F b q xs) [hF : Suf l F] (hs : Sat l w) {j : Nat} (hx : ev fr x = some (.pointer (some ⟨b, q + j, none⟩))) {vs : List Value} (h : (xs.drop j).take size = vs) (hl : vs.length = size) (h0 : Nat.blt 0 size = true) : LooksAt P ⟨d, .load t x, ty, pos, aft, g⟩ fr w (Sat F) (valOf agg vs) := by
  have hh : ∀ (a : Act) (n : Nat) (ds : List Deferred), Fits n ds fr a → ∀ w, Sat F w → (execOp a.eval ⟨d, .load t x, ty, pos, aft, g⟩).run P w = .ok (.value (valOf agg vs)) w := by
    intro a n ds hf w hC
    subst h
    have hl' := hl
    have := run_loadVar (P := P) (t := t) (w := w) (b := b) (q + j) ((xs.drop j).take size) hl (fun j' u hj => by
      rw [Nat.add_assoc]
      refine hr w hC (j + j') u ?_
      rw [List.getElem?_take] at hj
      split at hj
      · rwa [List.getElem?_drop] at hj
      · cases hj)
    simp [execOp, hf.ev hx, Instr.loadAt, Instr.sureAddr, this]
  exact ⟨fun n ds a hf w hC => hh a n ds hf w hC, Suf.sat hs⟩
theorem la_load1_rd {bytes : Nat} {zero : List Value} [hI : TyI P t false 1 bytes zero] {xs : List Value} {q : Nat} (hr : Rd F b q xs) [hF : Suf l F] (hs : Sat l w) {j : Nat} (hx : ev fr x = some (.pointer (some ⟨b, q + j, none⟩))) (h : xs[j]? = some v) : LooksAt P ⟨d, .load t x, ty, pos, aft, g⟩ fr w (Sat F) v := by
  refine ⟨fun n ds a hf w hC => ?_, Suf.sat hs⟩
  have := run_loadVar (P := P) (t := t) (w := w) (b := b) (q + j) [v] rfl (fun j' u hj => by
    cases j' with
    | zero => simp at hj; subst hj; rw [Nat.add_zero]; exact hr w hC j _ h
    | succ j => simp at hj)
  simp [execOp, hf.ev hx, Instr.loadAt, Instr.sureAddr, this, valOf]
theorem la_load_rd {agg : Bool} {size bytes : Nat} {zero : List Value} [hI : TyI P t agg size bytes zero] {xs : List Value} {q : Nat} (hr : Rd F b q xs) [hF : Suf l F] (hs : Sat l w) {j : Nat} (hx : ev fr x = some (.pointer (some ⟨b, q + j, none⟩))) (h : j + size ≤ xs.length) : LooksAt P ⟨d, .load t x, ty, pos, aft, g⟩ fr w (Sat F) (valOf agg ((xs.drop j).take size)) := by
  refine ⟨fun n ds a hf w hC => ?_, Suf.sat hs⟩
  have := run_loadVar (P := P) (t := t) (w := w) (b := b) (q + j) ((xs.drop j).take size) (by simp; omega) (fun j' u hj => by
    rw [Nat.add_assoc]
    refine hr w hC (j + j') u ?_
    rw [List.getElem?_take] at hj
    split at hj
    · rwa [List.getElem?_drop] at hj
    · cases hj)
  simp [execOp, hf.ev hx, Instr.loadAt, Instr.sureAddr, this]

/-! ### Stores -/
/-- Cells from a place on, replaced. -/
def splice : List Value → Nat → List Value → List Value
  | cs, _, [] => cs
  | cs, o, v :: vs => splice (cs.set o v) (o + 1) vs
theorem splice_length : ∀ (vs cs : List Value) (o : Nat), (splice cs o vs).length = cs.length
  | [], _, _ => rfl
  | v :: vs, cs, o => by simp [splice, splice_length vs]
theorem splice_eq : ∀ (vs cs : List Value) (o : Nat), o + vs.length ≤ cs.length → splice cs o vs = cs.take o ++ vs ++ cs.drop (o + vs.length)
  | [], cs, o, _ => by simp [splice]
  | v :: vs, cs, o, h => by
    have ho : o < cs.length := by simp at h; omega
    rw [splice, splice_eq vs (cs.set o v) (o + 1) (by simp at h ⊢; omega)]
    rw [List.take_succ_eq_append_getElem (by simpa using ho), List.take_set_of_le (by omega), List.getElem_set_self]
    rw [List.drop_set_of_lt (by omega)]
    simp [Nat.add_assoc, Nat.add_comm 1]
/-! #### Rows of one length -/
section rows
variable {α : Type} {f : α → List Value} {c : Nat}
theorem rows_length {xs : List α} (hc : ∀ x ∈ xs, (f x).length = c) : (xs.flatMap f).length = xs.length * c := by
  induction xs with
  | nil => simp
  | cons x xs ih =>
    rw [List.flatMap_cons, List.length_append, hc x List.mem_cons_self, ih (fun y hy => hc y (List.mem_cons_of_mem _ hy)), List.length_cons, Nat.add_mul]
    omega
theorem rows_drop {xs : List α} (hc : ∀ x ∈ xs, (f x).length = c) : ∀ k, (xs.flatMap f).drop (k * c) = (xs.drop k).flatMap f := by
  induction xs with
  | nil => simp
  | cons x xs ih =>
    intro k
    cases k with
    | zero => simp
    | succ k =>
      have hx := hc x List.mem_cons_self
      rw [List.flatMap_cons, Nat.add_mul, Nat.one_mul, Nat.add_comm, ← List.drop_drop, List.drop_left' hx, List.drop_succ_cons]
      exact ih (fun y hy => hc y (List.mem_cons_of_mem _ hy)) k
theorem rows_take {xs : List α} (hc : ∀ x ∈ xs, (f x).length = c) : ∀ k, (xs.flatMap f).take (k * c) = (xs.take k).flatMap f := by
  induction xs with
  | nil => simp
  | cons x xs ih =>
    intro k
    cases k with
    | zero => simp
    | succ k =>
      have hx := hc x List.mem_cons_self
      rw [List.flatMap_cons, Nat.add_mul, Nat.one_mul, Nat.add_comm, List.take_append, hx, List.take_of_length_le (by omega), List.take_succ_cons, List.flatMap_cons]
      rw [show c + k * c - c = k * c by omega, ih (fun y hy => hc y (List.mem_cons_of_mem _ hy)) k]
theorem rows_get {xs : List α} (hc : ∀ x ∈ xs, (f x).length = c) {k : Nat} (hk : k < xs.length) : ((xs.flatMap f).drop (k * c)).take c = f xs[k] := by
  rw [rows_drop hc, List.drop_eq_getElem_cons hk, List.flatMap_cons, List.take_append, hc _ (List.getElem_mem hk), List.take_of_length_le (by rw [hc _ (List.getElem_mem hk)]; omega)]
  simp
theorem rows_splice {xs : List α} (hc : ∀ x ∈ xs, (f x).length = c) {k : Nat} (hk : k < xs.length) {y : α} (hy : (f y).length = c) : splice (xs.flatMap f) (k * c) (f y) = (xs.set k y).flatMap f := by
  have hl := rows_length (f := f) hc
  have h1 : k * c + c ≤ xs.length * c := by rw [← Nat.succ_mul]; exact Nat.mul_le_mul_right _ hk
  rw [splice_eq _ _ _ (by rw [hl, hy]; exact h1), hy, rows_take hc, ← Nat.succ_mul, rows_drop hc, List.set_eq_take_append_cons_drop, if_pos hk]
  simp
end rows
theorem run_storeCells (b : Nat) (o : Nat) (vs : List Value) : ∀ (i : Nat) (cs : List Value) (w : World), Sat (blk b cs t :: l) w → o + i + vs.length ≤ cs.length → (∀ v ∈ vs, v.oneCell' = true) →
    ∃ w', (storeCells ⟨b, o, none⟩ vs i).run P w = .ok () w' ∧ ∀ rest, Sat (blk b cs t :: rest) w → Sat (blk b (splice cs (o + i) vs) t :: rest) w' := by
  induction vs with
  | nil => exact fun i cs w hs _ _ => ⟨w, rfl, fun _ h => h⟩
  | cons v vs ih =>
    intro i cs w hs hl h1
    simp only [List.length_cons] at hl
    have hcell := hs.blk_cell (o + i)
    have hfz := hs.blk_frozen (o + i) (by omega)
    have hlt : o + i < cs.length := by omega
    rw [List.getElem?_eq_getElem hlt] at hcell
    have hst : (store ((⟨b, o, none⟩ : Addr).add i) v).run P w = .ok () (w.setCell ⟨b, o + i, none⟩ v) := by
      rw [Addr.add_lit]
      have hv := h1 v List.mem_cons_self
      unfold store
      cases v <;> simp [Value.oneCell'] at hv <;> simp [Sem.run, hcell, hfz]
    obtain ⟨w', hr, hS⟩ := ih (i + 1) (cs.set (o + i) v) (w.setCell ⟨b, o + i, none⟩ v) (hs.setCell (o + i) v) (by simp; omega) (fun u hu => h1 u (List.mem_cons_of_mem _ hu))
    refine ⟨w', ?_, fun rest hrest => hS rest (hrest.setCell (o + i) v)⟩
    simp only [storeCells, Sem.run_bind, hst, Result.andThen_ok]
    exact hr
theorem does_skip {o : Oper} {Post : Value → World → Prop} (hd : noDefer o = true) (h : ∀ n ds a, Fits n ds fr a → ∃ w', (execOp a.eval o).run P w = .ok .skip w' ∧ Post undef w') : Does P r o fr w Post := fun n ds a hf K Q hK => by
  obtain ⟨w', hr, hp⟩ := h n ds a hf
  exact wpIn_of_skip (noDefer_spec hd) hr (hK _ _ hp)
theorem does_value {o : Oper} {Post : Value → World → Prop} (h : ∀ n ds a, Fits n ds fr a → ∃ v w', (execOp a.eval o).run P w = .ok (.value v) w' ∧ Post v w') : Does P r o fr w Post := fun n ds a hf K Q hK => by
  obtain ⟨v, w', hr, hp⟩ := h n ds a hf
  exact wpIn_of_run (noDefer_of_run hr) hr (hK _ _ hp)
theorem run_storeVar {agg : Bool} {size bytes : Nat} {zero : List Value} [hI : TyI P t agg size bytes zero] {vs : List Value} (hc : v.cells = vs.toArray) (hn : vs.length = size) (h1 : ∀ u ∈ vs, u.oneCell' = true) (hs : Sat (blk b cs e :: l) w) (hl : o + size ≤ cs.length) :
    ∃ w', (storeVar t ⟨b, o, none⟩ v).run P w = .ok () w' ∧ ∀ rest, Sat (blk b cs e :: rest) w → Sat (blk b (splice cs o vs) e :: rest) w' := by
  obtain ⟨w', hr, hS⟩ := run_storeCells (P := P) b o vs 0 cs w hs (by omega) h1
  refine ⟨w', ?_, hS⟩
  unfold storeVar
  rw [Sem.run_bind, TyI.run_size (P := P) (t := t) w]
  simp [hc, hn, hr]
theorem does_store {agg : Bool} {size bytes : Nat} {zero : List Value} [hI : TyI P t agg size bytes zero] [hA : At l b cs e G] {vs : List Value} (hs : Sat l w) (hx : ev fr x = some (.pointer (some ⟨b, o, none⟩))) (hy : ev fr y = some v) (hc : v.cells = vs.toArray) (hn : vs.length = size) (h1 : ∀ u ∈ vs, u.oneCell' = true) (hl : o + size ≤ cs.length) :
    Does P r ⟨d, .store t x y, ty, pos, aft, g⟩ fr w (fun _ w' => Sat (G (splice cs o vs)) w') := by
  refine does_skip rfl fun n ds a hf => ?_
  obtain ⟨i, h2, h3⟩ := hA.out
  obtain ⟨w', hr, hS⟩ := run_storeVar (P := P) (t := t) (v := v) (o := o) hc hn h1 (hs.pull i h2) hl
  refine ⟨w', by simp [execOp, hf.ev hx, hf.ev hy, Instr.storeAt, Instr.sureAddr, hr], ?_⟩
  exact At.upd (h := hA) hs hS
theorem does_store1 {bytes : Nat} {zero : List Value} [hI : TyI P t false 1 bytes zero] [hA : At l b cs e G] (hs : Sat l w) (hx : ev fr x = some (.pointer (some ⟨b, o, none⟩))) (hy : ev fr y = some v) (hv : v.oneCell' = true) (hl : o < cs.length) :
    Does P r ⟨d, .store t x y, ty, pos, aft, g⟩ fr w (fun _ w' => Sat (G (cs.set o v)) w') :=
  does_store (vs := [v]) hs hx hy (oneCell'_cells hv) rfl (by simpa using hv) (by simp; omega)

/-! ### New blocks -/
theorem does_alloc {agg : Bool} {size bytes : Nat} {zero : List Value} [hI : TyI P e agg size bytes zero] (hs : Sat l w) : Does P r ⟨d, .alloc e, ty, pos, aft, g⟩ fr w (fun v w' => ∃ b, v = .pointer (some ⟨b, 0, none⟩) ∧ Sat (blk b zero e :: l) w') := by
  refine does_value fun n ds a hf => ⟨_, w.alloc (.cells zero.toArray e), ?_, w.heap.size, rfl, hs.alloc zero e⟩
  simp only [execOp, Instr.alloc, Sem.run_bind, TyI.run_zero (P := P) (t := e) w, Result.andThen_ok, newVar, newRow, newObj, TyI.zero_cells P e]
  rfl
theorem does_box {vs : List Value} (hs : Sat l w) (hx : ev fr x = some v) (hc : v.cells = vs.toArray) : Does P r ⟨d, .box e x, ty, pos, aft, g⟩ fr w (fun v w' => ∃ b, v = .pointer (some ⟨b, 0, none⟩) ∧ Sat (blk b vs e :: l) w') := by
  refine does_value fun n ds a hf => ⟨_, w.alloc (.cells vs.toArray e), ?_, w.heap.size, rfl, hs.alloc vs e⟩
  simp only [execOp, Instr.box, hf.ev hx, newVar, newRow, newObj, hc]
  rfl
/-- n times a list. -/
def rep (n : Nat) (z : List Value) : List Value := (List.replicate n z).flatten
theorem rep_length (n : Nat) (z : List Value) : (rep n z).length = n * z.length := by simp [rep]
theorem rep_get (z : List Value) (hz : 0 < z.length) : ∀ (n j : Nat), j < n * z.length → (rep n z)[j]? = z[j % z.length]?
  | 0, j, h => by simp at h
  | n + 1, j, h => by
    unfold rep
    rw [List.replicate_succ, List.flatten_cons]
    by_cases hj : j < z.length
    · rw [List.getElem?_append_left hj, Nat.mod_eq_of_lt hj]
    · rw [List.getElem?_append_right (by omega)]
      have h' : j - z.length < n * z.length := by rw [Nat.add_mul] at h; omega
      have := rep_get z hz n (j - z.length) h'
      unfold rep at this
      rw [this, ← Nat.mod_eq_sub_mod (by omega)]
theorem rep_one (n : Nat) (v : Value) : rep n [v] = List.replicate n v := by
  induction n with
  | zero => rfl
  | succ n ih => simp [rep, List.replicate_succ]
theorem rep_one' (n : Nat) (v : Value) : rep n [v] = reps n v := rep_one n v
theorem rep_flatMap {α : Type} (f : α → List Value) (n : Nat) (x : α) : rep n (f x) = (List.replicate n x).flatMap f := by
  induction n with
  | zero => rfl
  | succ n ih => rw [List.replicate_succ, List.flatMap_cons, ← ih]; simp [rep, List.replicate_succ]
theorem zeros_eq (n : Nat) (z : List Value) (hz : n * z.length = 0 ∨ 0 < z.length) : madeCells z.toArray (n * z.length) = (rep n z).toArray := by
  unfold madeCells
  apply Array.ext'
  apply List.ext_getElem?
  intro j
  simp only [Array.toList_map, Array.toList_range, List.getElem?_map]
  by_cases hj : j < n * z.length
  · have hz' : 0 < z.length := by omega
    rw [rep_get z hz' n j hj]
    have hm : j % z.length < z.length := Nat.mod_lt _ hz'
    simp [List.getElem?_range hj, hm]
  · rw [List.getElem?_eq_none (l := List.range (n * z.length)) (by rw [List.length_range]; omega)]
    rw [List.getElem?_eq_none]
    · rfl
    · rw [rep_length]; omega
theorem does_makeSlice {agg : Bool} {size bytes : Nat} {zero : List Value} [hT : TyU P t (.slice e)] [hI : TyI P e agg size bytes zero] {k k' : IntKind} {n m : Nat} (hs : Sat l w) (hx : ev fr x = some (.int k (n : Int))) (hy : ev fr y = some (.int k' (m : Int))) (hnm : n ≤ m) (hb : m * bytes ≤ 140737488355328) (hm : m ≤ 9223372036854775807) :
    Does P r ⟨d, .makeSlice t x y, ty, pos, aft, g⟩ fr w (fun v w' => ∃ b, v = .slice (some ⟨b, 0, none⟩) n m ∧ Sat (blk b (rep m zero) e :: l) w') := by
  refine does_value fun _ ds a hf => ⟨_, w.alloc (.cells (rep m zero).toArray e), ?_, w.heap.size, rfl, hs.alloc _ e⟩
  obtain ⟨i, hi, h2, h3, h4, h5, h6, h7⟩ := hI.info
  have hb' : (i.bytes : Int) * (m : Int) ≤ 281474976710656 := by
    have : ((m * bytes : Nat) : Int) ≤ 140737488355328 := by omega
    rw [Int.natCast_mul, Int.mul_comm] at this; rw [h3]; omega
  have hr := run_make (P := P) w t e i _ hT.h hi h4 k k' (n : Int) (m : Int) (by omega) (by omega) hb' (by omega)
  rw [TyI.zero_cells P e, h2] at hr
  simp only [Int.toNat_natCast] at hr
  rw [← h6, zeros_eq m zero (by
    rcases Nat.eq_zero_or_pos zero.length with h0 | h0
    · left; simp [h0]
    · exact .inr h0)] at hr
  simp [execOp, hf.ev hx, hf.ev hy, hr]

theorem does_makeSliceI {agg : Bool} {size bytes : Nat} {zero : List Value} [hT : TyU P t (.slice e)] [hI : TyI P e agg size bytes zero] {k k' : IntKind} (n m : Nat) {n' m' : Int} (hs : Sat l w) (hx : ev fr x = some (.int k n')) (hy : ev fr y = some (.int k' m')) (hn : n' = (n : Int)) (hm' : m' = (m : Int)) (hnm : n ≤ m) (hb : m * bytes ≤ 140737488355328) (hm : m ≤ 9223372036854775807) :
    Does P r ⟨d, .makeSlice t x y, ty, pos, aft, g⟩ fr w (fun v w' => ∃ b, v = .slice (some ⟨b, 0, none⟩) n m ∧ Sat (blk b (rep m zero) e :: l) w') := by
  subst hn; subst hm'
  exact does_makeSlice hs hx hy hnm hb hm
/-! ### Parts of slices: what a call owns -/
/-- A slice, n elements of 'size' cells each, its array from its head on its own: the cells xs. -/
def sl (v : Value) (e : TypeId) (size n : Nat) (xs : List Value) : Assn := fun v' h =>
  (v = .slice none 0 0 ∧ n = 0 ∧ xs = []) ∨ ∃ b c spare, v = .slice (some ⟨b, 0, none⟩) n c ∧ n ≤ c ∧ xs.length = n * size ∧ xs.length + spare.length = c * size ∧ blk b (xs ++ spare) e v' h
theorem Sat.sl_nil (h : Sat l w) (e : TypeId) (size : Nat) : Sat (sl (.slice none 0 0) e size 0 [] :: l) w :=
  ⟨fun _ => none, hpOf w, fun _ => .inl rfl, fun _ _ e => (by cases e), Hp.le_refl _, .inl ⟨rfl, rfl, rfl⟩, h⟩
theorem Sat.sl_mk {n c size : Nat} {xs spare : List Value} (h : Sat (blk b (xs ++ spare) e :: l) w) (hn : n ≤ c) (h1 : xs.length = n * size) (h2 : xs.length + spare.length = c * size) : Sat (sl (.slice (some ⟨b, 0, none⟩) n c) e size n xs :: l) w :=
  h.imp fun _ _ hb => .inr ⟨b, c, spare, rfl, hn, h1, h2, hb⟩
theorem Sat.sl_cases {n size : Nat} {xs : List Value} (h : Sat (sl v e size n xs :: l) w) :
    (v = .slice none 0 0 ∧ n = 0 ∧ xs = [] ∧ Sat l w) ∨ ∃ b c spare, v = .slice (some ⟨b, 0, none⟩) n c ∧ n ≤ c ∧ xs.length = n * size ∧ xs.length + spare.length = c * size ∧ Sat (blk b (xs ++ spare) e :: l) w := by
  have h0 := h
  obtain ⟨h1, h2, ap, l1, l2, hA, hl⟩ := h
  rcases hA with ⟨rfl, rfl, rfl⟩ | ⟨b, c, spare, rfl, g1, g2, g3, g4⟩
  · exact .inl ⟨rfl, rfl, rfl, h0.tail⟩
  · exact .inr ⟨b, c, spare, rfl, g1, g2, g3, h1, h2, ap, l1, l2, g4, hl⟩
theorem Sat.sl_len {n size : Nat} {xs : List Value} (h : Sat (sl v e size n xs :: l) w) : xs.length = n * size ∧ ∃ p c, v = .slice p n c ∧ n ≤ c := by
  rcases h.sl_cases with ⟨rfl, rfl, rfl, _⟩ | ⟨b, c, spare, rfl, g1, g2, _⟩
  · exact ⟨by simp, _, _, rfl, Nat.le_refl _⟩
  · exact ⟨g2, _, _, rfl, g1⟩
/-- It reads as a list. -/
theorem RdS.of_sl {n size : Nat} {xs : List Value} (h : Sat (sl v e size n xs :: l) w) : RdS (sl v e size n xs :: l) size v n xs := by
  rcases h.sl_cases with ⟨rfl, rfl, rfl, _⟩ | ⟨b, c, spare, rfl, g1, g2, g3, _⟩
  · exact ⟨none, 0, rfl, Nat.le_refl _, by simp, fun h => by simp at h⟩
  · refine ⟨_, c, rfl, g1, g2, fun _ => ⟨b, 0, rfl, fun w' hw' j u hu => ?_⟩⟩
    rcases hw'.sl_cases with ⟨hv, _⟩ | ⟨b', c', spare', hv, _, _, _, hb⟩
    · cases hv
    · cases hv
      rw [hb.blk_cell (0 + j), Nat.zero_add]
      have : j < xs.length := (List.getElem?_eq_some_iff.1 hu).1
      rw [List.getElem?_append_left this]; exact hu

/-- What is appended. -/
def SrcOk (P : Program) (size : Nat) (tx : TypeId) (x : Value) (m : Nat) (news : List Value) (l : List Assn) : Prop := ∀ w, Sat l w → Src P size tx x m news w
theorem RdS.src {size : Nat} {tx e' : TypeId} [h : TyU P tx (.slice e')] {m : Nat} {news : List Value} (hr : RdS F size v m news) (h1 : ∀ u ∈ news, u.oneCell' = true) [hF : Suf l F] : SrcOk P size tx v m news l := fun w hs => by
  obtain ⟨p, c, rfl, hc, hl, hp⟩ := hr
  by_cases h0 : 0 < m * size
  · obtain ⟨b, o, rfl, hrd⟩ := hp h0
    exact Src.ofSlice w h.h ⟨b, o, none⟩ m c news hl (fun j u hj => by rw [Addr.add_lit]; exact hrd w (Suf.sat hs) j u hj) h1
  · have hn : news = [] := List.eq_nil_of_length_eq_zero (by omega)
    subst hn
    cases p with
    | none =>
      have hm : (Builtin.firstCells size m (.slice none m c)).run P w = .ok #[] w := run_firstCells_none w size m m c
      have hm' : (Builtin.firstCells size m (.slice none m c)).run P w.drew = .ok #[] w.drew := run_firstCells_none w.drew size m m c
      exact ⟨.inl ⟨e', h.h⟩, fun _ => rfl, hm, hm', hl, h1⟩
    | some a => exact Src.ofSlice w h.h a m c [] hl (fun j u hj => by simp at hj) h1
theorem src_at {size : Nat} {tx e' : TypeId} [h : TyU P tx (.slice e')] [hA : At l b cs e G] {m c : Nat} (hl : cs.length = m * size) (h1 : ∀ u ∈ cs, u.oneCell' = true) : SrcOk P size tx (.slice (some ⟨b, 0, none⟩) m c) m cs l := fun w hs =>
  Src.ofSlice w h.h ⟨b, 0, none⟩ m c cs hl (fun j u hj => by rw [Addr.add_lit, (At.sat (h := hA) hs).blk_cell]; simpa using hj) h1
theorem src_str {tx : TypeId} [h : TyU P tx .string] (m : List UInt8) : SrcOk P 1 tx (str m) m.length (bytesV m) l := fun w hs => by
  have := Src.ofString (P := P) w h.h ⟨m.toArray⟩
  have e1 : (ByteArray.mk m.toArray).size = m.length := by simp [ByteArray.size]
  have e2 : byteCells ⟨m.toArray⟩ = bytesV m := by simp [byteCells, bytesV]
  rwa [e1, e2] at this
theorem src_nil {size : Nat} {tx e' : TypeId} [h : TyU P tx (.slice e')] {c : Nat} : SrcOk P size tx (.slice none 0 c) 0 [] l := fun w hs => Src.ofNil w h.h c

/-- Append to a slice of the call's own. -/
theorem run_append {agg : Bool} {size bytes : Nat} {zero : List Value} [hT : TyU P t (.slice e)] [hI : TyI P e agg size bytes zero] {tx : TypeId} {n m : Nat} {xs news : List Value} (ty : TypeId) (hs : Sat (sl v e size n xs :: l) w) (hsrc : Src P size tx u m news w) (hb : (n + m) * bytes ≤ 140737488355328) (hm : n + m ≤ 9223372036854775807) :
    ∃ v' w', (Builtin.append_ #[t, tx] ty #[v, u]).run P w = .ok v' w' ∧ ∀ rest, Sat (sl v e size n xs :: rest) w → Sat (sl v' e size (n + m) (xs ++ news) :: rest) w' := by
  obtain ⟨i, hi, h2, h3, h4, h5, h6, h7⟩ := hI.info
  obtain ⟨k1, k2, k3, k4, k5, k6⟩ := hsrc
  have hsrc' : Src P i.size tx u m news w := by rw [h2]; exact ⟨k1, k2, k3, k4, k5, k6⟩
  have hzc := TyI.zero_cells P e (agg := agg) (zero := zero)
  have grow : ∀ (base : Option Addr) (c : Nat), v = .slice base n c → c < n + m → (Builtin.firstCells i.size n (.slice base n c)).run P w.drew = .ok xs.toArray w.drew → xs.length = n * size →
      ∃ v' w', (Builtin.append_ #[t, tx] ty #[v, u]).run P w = .ok v' w' ∧ ∀ rest, Sat (sl v e size n xs :: rest) w → Sat (sl v' e size (n + m) (xs ++ news) :: rest) w' := by
    rintro base c rfl hc hold hxl
    have hr := run_append_grow_src (P := P) w t tx ty e i _ hT.h hi h4 base n c xs hold u m news hsrc' hc (by omega) (growslice_fits hc (by rw [h3]; exact hb))
    refine ⟨_, _, hr, fun rest hrest => ?_⟩
    have hge := grownCap_ge w (n + m) c e
    have hzl : (Builtin.zeroCells zero.toArray (grownCap w (n + m) c e - (n + m))).size = (grownCap w (n + m) c e - (n + m)) * size := by
      rw [size_zeroCells]; simp [h6]
    rw [hzc]
    have hal := (hrest.tail.drew).alloc (xs ++ news ++ (Builtin.zeroCells zero.toArray (grownCap w (n + m) c e - (n + m))).toList) e
    have hd : w.drew.heap.size = w.heap.size := rfl
    rw [hd] at hal
    have he : (xs ++ news ++ (Builtin.zeroCells zero.toArray (grownCap w (n + m) c e - (n + m))).toList).toArray = (xs ++ news).toArray ++ Builtin.zeroCells zero.toArray (grownCap w (n + m) c e - (n + m)) := by simp
    rw [he] at hal
    refine hal.sl_mk (c := grownCap w (n + m) c e) hge (by simp [hxl, k5, Nat.add_mul]) ?_
    simp only [List.length_append, hxl, k5, Array.length_toList, hzl, ← Nat.add_mul]
    congr 1; omega
  rcases hs.sl_cases with ⟨rfl, rfl, rfl, hl⟩ | ⟨b, c, spare, rfl, hnc, hxl, hcl, hl⟩
  · by_cases hm0 : m = 0
    · subst hm0
      have hn0 : news = [] := List.eq_nil_of_length_eq_zero (by simpa using k5)
      subst hn0
      refine ⟨.slice none 0 0, w, ?_, fun rest h => h⟩
      rcases k1 with ⟨e', hk⟩ | hk <;> simp [Builtin.append_, run_underlying hT.h, run_underlying hk, sizeOf, typeInfo, hi, k2, h2, k3]
    · exact grow none 0 rfl (by omega) (run_firstCells_none w.drew i.size 0 0 0) (by simp)
  · by_cases hroom : n + m ≤ c
    · have hnl : n * size + news.length ≤ (xs ++ spare).length := by
        rw [List.length_append, hcl, k5, ← Nat.add_mul]; exact Nat.mul_le_mul_right _ hroom
      obtain ⟨w', hr, hS⟩ := run_storeCells (P := P) b (n * size) news 0 (xs ++ spare) w hl (by omega) k6
      refine ⟨.slice (some ⟨b, 0, none⟩) (n + m) c, w', ?_, fun rest hrest => ?_⟩
      · have hfc : (Builtin.firstCells i.size m u).run P w = .ok news.toArray w := by rw [h2]; exact k3
        rcases k1 with ⟨e', hk⟩ | hk <;> simp [Builtin.append_, run_underlying hT.h, run_underlying hk, sizeOf, typeInfo, hi, k2, hroom, k3, h2, Addr.add_lit, hr]
      · rcases hrest.sl_cases with ⟨hv, _⟩ | ⟨b', c', spare', hv, _, _, hcl', hl'⟩
        · cases hv
        · cases hv
          have hsp : spare' = spare := by
            obtain ⟨f, e1, _⟩ := hl.blk_heap
            obtain ⟨f', e2, _⟩ := hl'.blk_heap
            rw [e1] at e2
            have e3 := Option.some.inj e2
            injection e3 with e3
            have e4 : xs ++ spare = xs ++ spare' := by
              have := congrArg Array.toList e3
              simpa using this
            exact (List.append_cancel_left e4).symm
          subst hsp
          have := hS rest hl'
          rw [Nat.add_zero, ← hxl, splice_eq news (xs ++ spare') xs.length (by rw [hxl]; exact hnl), List.take_left, hxl] at this
          have hdrop : List.drop (n * size + news.length) (xs ++ spare') = spare'.drop news.length := by rw [← hxl, ← List.drop_drop, List.drop_left]
          rw [hdrop] at this
          refine this.sl_mk hroom (by simp [hxl, k5, Nat.add_mul]) ?_
          simp only [List.length_append, List.length_drop] at hnl ⊢
          omega
    · refine grow (some ⟨b, 0, none⟩) c rfl (by omega) ?_ hxl
      rw [h2]
      refine run_firstCells_some w.drew size n ⟨b, 0, none⟩ n c xs hxl fun j x hj => ?_
      rw [Addr.add_lit]
      have := hl.blk_cell (0 + j)
      rw [Nat.zero_add] at this ⊢
      show w.cell? _ = _
      rw [this, List.getElem?_append_left (List.getElem?_eq_some_iff.1 hj).1]
      exact hj
/-- Among the parts one is a slice of the call's own. -/
class AtS (l : List Assn) (v : Value) (e : outParam TypeId) (size n : outParam Nat) (xs : outParam (List Value)) (G : outParam (Assn → List Assn)) : Prop where
  out : ∃ i, l[i]? = some (sl v e size n xs) ∧ ∀ B, G B = l.set i B
instance AtS.head (l : List Assn) (v : Value) (e : TypeId) (size n : Nat) (xs : List Value) : AtS (sl v e size n xs :: l) v e size n xs (fun B => B :: l) := ⟨0, rfl, fun _ => rfl⟩
instance (priority := low) AtS.tail (A : Assn) (l : List Assn) (v : Value) (e : TypeId) (size n : Nat) (xs : List Value) (G : Assn → List Assn) [h : AtS l v e size n xs G] : AtS (A :: l) v e size n xs (fun B => A :: G B) := by
  obtain ⟨i, h1, h2⟩ := h.out
  exact ⟨i + 1, h1, fun B => by rw [h2]; rfl⟩
theorem does_append {agg : Bool} {size bytes : Nat} {zero : List Value} [hT : TyU P t (.slice e)] [hI : TyI P e agg size bytes zero] {tx : TypeId} {n m : Nat} {xs news : List Value} {G : Assn → List Assn} [hA : AtS l v e size n xs G] (hs : Sat l w) (hx : ev fr x = some v) (hy : ev fr y = some u) (hsrc : SrcOk P size tx u m news l) (hb : (n + m) * bytes ≤ 140737488355328) (hm : n + m ≤ 9223372036854775807) :
    Does P r ⟨d, .call { callee := .builtin .append, args := #[x, y], argTypes := #[t, tx] }, ty, pos, aft, g⟩ fr w (fun v' w' => Sat (G (sl v' e size (n + m) (xs ++ news))) w') := by
  refine does_value fun _ ds a hf => ?_
  obtain ⟨i, h1, h2⟩ := hA.out
  obtain ⟨v', w', hr, hS⟩ := run_append (P := P) (t := t) ty (hs.pull i h1) (hsrc w hs) hb hm
  refine ⟨v', w', ?_, ?_⟩
  · simp [execOp, resolve, invoke, builtin, hf.ev hx, hf.ev hy, hr]
  · rw [h2]; exact hs.set_at i h1 hS

/-! ### Calls -/
theorem wpIn_of_enter {o : Oper} {a : Act} {w' : World} {f : FuncId} {args : Array Value} {Post : Value → World → Prop} {K : Act → World → Prop} {Q : Exit → Act → World → Prop}
    (hd : ∀ c, o.op ≠ .defer c) (h : (execOp a.eval o).run P w = .ok (.enter f args) w') (hr : Calls P f args w' fun e w'' => ∃ v, e = .returned v ∧ Post v w'') (hK : ∀ v w'', Post v w'' → K (a.put o.dst v) w'') : o.wpIn (Wd r) 0 P a w K Q := by
  refine ⟨fun _ _ => trivial, ?_⟩
  rw [show Oper.semAt (Wd r).round a.eval o = execOp a.eval o from Oper.semAt_eq _ _ _ hd, h]
  refine ⟨fun hf => by simp [Wd] at hf, callsIn_wd.2 (Calls.mono hr ?_)⟩
  rintro e w'' ⟨v, rfl, hp⟩
  exact hK v w'' hp
theorem does_call {f : FuncId} [hF : Fun P f] {args : Array Operand} {ts : Array TypeId} {vs : List Value} {Post : Value → World → Prop} (he : evs fr args.toList = some vs) (h : Ret P f vs w Post) : Does P r ⟨d, .call { callee := .value (.func f), args := args, argTypes := ts }, ty, pos, aft, g⟩ fr w Post := fun n ds a hf K Q hK => by
  have e1 : args.map a.eval = vs.toArray := by apply Array.ext'; simpa using hf.evs he
  refine wpIn_of_enter (noDefer_spec rfl) (w' := w) (f := f) (args := vs.toArray) ?_ h hK
  have hc := hF.h vs.toArray w
  simp [execOp, resolve, Deferred.ofValue, invoke, Act.eval, e1, hc]
/-- A function value. -/
theorem does_callv {f : FuncId} [hF : Fun P f] {x : Operand} {first capt : List Value} {args : Array Operand} {ts : Array TypeId} {vs : List Value} {Post : Value → World → Prop} (hx : ev fr x = some (.func (.func f) first.toArray capt.toArray)) (he : evs fr args.toList = some vs) (h : Ret P f (first ++ vs ++ capt) w Post) : Does P r ⟨d, .call { callee := .value x, args := args, argTypes := ts }, ty, pos, aft, g⟩ fr w Post := fun n ds a hf K Q hK => by
  have e1 : args.map a.eval = vs.toArray := by apply Array.ext'; simpa using hf.evs he
  refine wpIn_of_enter (noDefer_spec rfl) (w' := w) (f := f) (args := (first ++ vs ++ capt).toArray) ?_ h hK
  have hc := hF.h (first ++ vs ++ capt).toArray w
  simp at hc
  simp [execOp, resolve, Deferred.ofValue, invoke, hf.ev hx, e1, hc]
end
end Go.Sl
