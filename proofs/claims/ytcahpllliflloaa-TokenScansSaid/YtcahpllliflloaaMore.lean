/-
  Values put together, copies, conversions between bytes and texts. Nothing of a program stands here.
-/
import Derived.Test.YtcahpllliflloaaMem
import Derived.Laws.BytesString
set_option linter.unusedVariables false
set_option linter.unusedSimpArgs false
namespace Go.Sl
open Go

section
variable {P : Program} {r : Option Nat} {fr : Fr} {d : Option Tmp} {ty : TypeId} {pos : String} {aft : Array Edge} {g : Option (Nat × Bool)} {v u z vx vy : Value} {x y c i : Operand} {t s e : TypeId} {w : World} {l F : List Assn} {b o : Nat} {cs : List Value} {G : List Value → List Assn}

/-! ### Structs and rows put together -/
theorem foldl_set (vs : List Value) : ∀ (j : Nat) (off : Nat) (cells : Array Value), (vs.zipIdx j).foldl (fun (cs : Array Value) (x : Value × Nat) => cs.setIfInBounds (off + x.2) x.1) cells = (splice cells.toList (off + j) vs).toArray := by
  induction vs with
  | nil => intro j off cells; simp [splice]
  | cons v vs ih =>
    intro j off cells
    simp only [List.zipIdx_cons, List.foldl_cons, splice]
    rw [ih (j + 1) off]
    simp [Nat.add_assoc]
/-- Parts of a value, each with its number, laid over cells. -/
def lay (place : Nat → Option (Nat × Nat)) : List Value → List (Nat × List Value) → Option (List Value)
  | cells, [] => some cells
  | cells, (i, vs) :: rest => match place i with
    | some (off, _) => lay place (splice cells off vs) rest
    | none => none
def layOk (place : Nat → Option (Nat × Nat)) (n : Nat) : List (Nat × List Value) → Prop
  | [] => True
  | (i, vs) :: rest => (∃ off, place i = some (off, vs.length) ∧ off + vs.length ≤ n) ∧ layOk place n rest
theorem fill_lay (place : Nat → Option (Nat × Nat)) : ∀ (ps : List (Nat × Value)) (pl : List (Nat × List Value)) (cells : List Value) (out : List Value), ps.map (fun p => (p.1, p.2.cells)) = pl.map (fun p => (p.1, p.2.toArray)) → layOk place cells.length pl → lay place cells pl = some out →
    Instr.fill place cells.toArray ps = some out.toArray
  | [], [], cells, out, _, _, h => by simp [lay] at h; subst h; rfl
  | [], _ :: _, _, _, e, _, _ => by simp at e
  | _ :: _, [], _, _, e, _, _ => by simp at e
  | (i, v) :: ps, (i', vs) :: pl, cells, out, e, ho, h => by
    simp only [List.map_cons, List.cons.injEq, Prod.mk.injEq] at e
    obtain ⟨⟨rfl, ev⟩, e⟩ := e
    obtain ⟨⟨off, hp, hle⟩, ho⟩ := ho
    simp only [lay, hp] at h
    unfold Instr.fill
    have hsz : v.cells.size = vs.length := by rw [ev]; simp
    have hn : ¬ (cells.toArray.size < off + v.cells.size) := by simp [hsz]; omega
    have hfold : Array.foldl (fun (cs : Array Value) (x : Value × Nat) => cs.setIfInBounds (off + x.2) x.1) cells.toArray v.cells.zipIdx = (splice cells off vs).toArray := by
      rw [ev, ← Array.foldl_toList]
      have := foldl_set vs 0 off cells.toArray
      simpa using this
    simp only [hp, hsz, ne_eq, not_true_eq_false, false_or, List.size_toArray]
    rw [if_neg (by simp; omega)]
    have hf2 : (Array.foldl (fun (cs : Array Value) x => match x with | (c, j) => cs.setIfInBounds (off + j) c) cells.toArray v.cells.zipIdx) = (splice cells off vs).toArray := hfold
    rw [hf2]
    exact fill_lay place ps pl (splice cells off vs) out e (by rw [splice_length]; exact ho) h
/-- The places of a struct's fields. -/
class TyS (P : Program) (t : TypeId) (pl : outParam (List (Nat × Nat))) : Prop where
  h : ∃ fields : Array Field, P.underlying t = some (.struct fields) ∧ ∀ w, ((fields.mapM (fun f => do pure (f.offset, ← sizeOf f.type)) : Sem (Array (Nat × Nat)))).run P w = .ok pl.toArray w
def evps (fr : Fr) : List (Nat × Operand) → Option (List (Nat × Value))
  | [] => some []
  | (i, x) :: r => match ev fr x, evps fr r with
    | some v, some vs => some ((i, v) :: vs)
    | _, _ => none
theorem evps_map {n : Nat} {ds : List Deferred} {a : Act} (hf : Fits n ds fr a) : ∀ {ps : List (Nat × Operand)} {vs : List (Nat × Value)}, evps fr ps = some vs → ps.map (fun p => (p.1, a.eval p.2)) = vs
  | [], vs, h => by simp [evps] at h; simp [h]
  | (i, x) :: r, vs, h => by
    simp only [evps] at h
    split at h
    · rename_i v vs' h1 h2
      cases h
      simp [hf.ev h1, evps_map hf h2]
    · cases h
theorem po_build {agg : Bool} {size bytes : Nat} {zero : List Value} {pl : List (Nat × Nat)} [hI : TyI P t agg size bytes zero] [hS : TyS P t pl] {ps : Array (Nat × Operand)} {vs : List (Nat × Value)} {ls : List (Nat × List Value)} {out : List Value} (hv : evps fr ps.toList = some vs)
    (hc : vs.map (fun p => (p.1, p.2.cells)) = ls.map (fun p => (p.1, p.2.toArray))) (ho : layOk (pl[·]?) zero.length ls) (h : lay (pl[·]?) zero ls = some out) : Pure P ⟨d, .build t ps, ty, pos, aft, g⟩ fr (.agg out.toArray) := fun n ds a hf w => by
  obtain ⟨fields, h1, h2⟩ := hS.h
  have e1 : (ps.map fun (i, x) => (i, a.eval x)).toList = vs := by simpa using evps_map hf hv
  have e2 : (fun i : Nat => pl.toArray[i]?) = (fun i : Nat => pl[i]?) := by funext i; simp
  have hfill := fill_lay (fun i : Nat => pl[i]?) vs ls zero out hc ho h
  simp only [execOp, Instr.build, Sem.run_bind, TyI.run_zero (P := P) (t := t) w, Result.andThen_ok, TyI.zero_cells P t, run_underlying h1 w, h2 w, e1, e2, hfill]
  rfl
/-- A new row of cells, put together of its elements. -/
theorem does_buildSlice {agg : Bool} {size bytes : Nat} {zero : List Value} [hT : TyU P t (.slice e)] [hI : TyI P e agg size bytes zero] {n : Nat} {ps : Array (Nat × Operand)} {vs : List (Nat × Value)} {ls : List (Nat × List Value)} {out : List Value} (hs : Sat l w) (hv : evps fr ps.toList = some vs)
    (hc : vs.map (fun p => (p.1, p.2.cells)) = ls.map (fun p => (p.1, p.2.toArray))) (ho : layOk (fun i => some (i * size, size)) (rep n zero).length ls) (h : lay (fun i => some (i * size, size)) (rep n zero) ls = some out) (hn : Nat.ble (n * size) 16777216 = true) :
    Does P r ⟨d, .buildSlice t n ps, ty, pos, aft, g⟩ fr w (fun v w' => ∃ b, v = .slice (some ⟨b, 0, none⟩) n n ∧ Sat (blk b out e :: l) w') := by
  refine does_value fun m ds a hf => ⟨_, w.alloc (.cells out.toArray e), ?_, w.heap.size, rfl, hs.alloc out e⟩
  have e1 : (ps.map fun (i, x) => (i, a.eval x)).toList = vs := by simpa using evps_map hf hv
  have hfill := fill_lay (fun i => some (i * size, size)) vs ls (rep n zero) out hc ho h
  have hn' : ¬ (16777216 < n * size) := by have : n * size ≤ 16777216 := by simpa using hn
                                           omega
  obtain ⟨_, _, _, _, _, _, hzl, _⟩ := hI.info
  have hZ := zeros_eq n zero (by
    rcases Nat.eq_zero_or_pos zero.length with h0 | h0
    · left; simp [h0]
    · exact .inr h0)
  rw [hzl] at hZ
  unfold madeCells at hZ
  simp only [execOp, Instr.buildSlice, Sem.run_bind, TyU.run (P := P) (t := t) w, Result.andThen_ok, TyI.run_size (P := P) (t := e) w, e1]
  rw [if_neg (by simpa using hn')]
  by_cases h0 : n * size = 0
  · have hr : rep n zero = [] := List.eq_nil_of_length_eq_zero (by rw [rep_length, hzl]; exact h0)
    rw [hr] at hfill
    simp only [h0, if_true]
    simp only [Sem.run_pure, Sem.run_bind, Result.andThen_ok, Array.range_zero', Array.map_empty, hfill, newRow, newObj]
    rfl
  · simp only [h0, if_false]
    simp only [Sem.run_pure, Sem.run_bind, Result.andThen_ok, TyI.run_zero (P := P) (t := e) w, TyI.zero_cells P e, hZ, hfill, newRow, newObj]
    rfl
theorem does_buildSlice0 {agg : Bool} {size bytes : Nat} {zero : List Value} [hT : TyU P t (.slice e)] [hI : TyI P e agg size bytes zero] (hs : Sat l w) : Does P r ⟨d, .buildSlice t 0 #[], ty, pos, aft, g⟩ fr w (fun v w' => ∃ b, v = .slice (some ⟨b, 0, none⟩) 0 0 ∧ Sat (blk b [] e :: l) w') :=
  does_buildSlice (vs := []) (ls := []) (out := []) hs rfl rfl trivial (by simp [lay, rep]) (by simp)

/-! ### copy -/
/-- What is read of a source, as far as asked. -/
def Src2 (P : Program) (size : Nat) (u : Value) (m : Nat) (news : List Value) (l : List Assn) : Prop :=
  news.length = m * size ∧ (∀ v ∈ news, v.oneCell' = true) ∧ (∀ w, (Builtin.lenOf u).run P w = .ok m w) ∧ ∀ w, Sat l w → ∀ k, k ≤ m → (Builtin.firstCells size k u).run P w = .ok (news.take (k * size)).toArray w
theorem RdS.src2 {size : Nat} {m : Nat} {news : List Value} (hr : RdS F size v m news) (h1 : ∀ u ∈ news, u.oneCell' = true) [hF : Suf l F] : Src2 P size v m news l := by
  obtain ⟨p, c, rfl, hc, hl, hp⟩ := hr
  refine ⟨hl, h1, fun w => by simp [Builtin.lenOf], fun w hs k hk => ?_⟩
  have hkm : k * size ≤ m * size := Nat.mul_le_mul_right _ hk
  by_cases h0 : 0 < m * size
  · obtain ⟨b, o, rfl, hrd⟩ := hp h0
    refine run_firstCells_some w size k ⟨b, o, none⟩ m c (news.take (k * size)) (by simp; omega) fun j x hj => ?_
    rw [Addr.add_lit]
    rw [List.getElem?_take] at hj
    split at hj
    · exact hrd w (Suf.sat hs) j x hj
    · cases hj
  · have hz : k * size = 0 := by omega
    have hn : news = [] := List.eq_nil_of_length_eq_zero (by omega)
    subst hn
    cases p with
    | none => simpa using run_firstCells_none w size k m c
    | some a => rw [List.take_nil]; exact run_firstCells_some w size k a m c [] (by simp [hz]) (fun j x hj => by simp at hj)
theorem src2_rd {size m c q : Nat} {news : List Value} (hr : Rd F b q news) (hl : news.length = m * size) (h1 : ∀ u ∈ news, u.oneCell' = true) [hF : Suf l F] : Src2 P size (.slice (some ⟨b, q, none⟩) m c) m news l := by
  refine ⟨hl, h1, fun w => by simp [Builtin.lenOf], fun w hs k hk => ?_⟩
  have hkm : k * size ≤ m * size := Nat.mul_le_mul_right _ hk
  refine run_firstCells_some w size k ⟨b, q, none⟩ m c (news.take (k * size)) (by simp; omega) fun j x hj => ?_
  rw [Addr.add_lit]
  rw [List.getElem?_take] at hj
  split at hj
  · exact hr w (Suf.sat hs) j x hj
  · cases hj
theorem does_copy {agg : Bool} {size bytes : Nat} {zero : List Value} {e' : TypeId} [hT : TyU P t (.slice e)] [hI : TyI P e agg size bytes zero] [hA : At l b cs e' G] {tx : TypeId} {n c m : Nat} {news : List Value} (hs : Sat l w) (hx : ev fr x = some (.slice (some ⟨b, o, none⟩) n c)) (hy : ev fr y = some u) (hsrc : Src2 P size u m news l) (hlen : o + min m n * size ≤ cs.length) :
    Does P r ⟨d, .call { callee := .builtin .copy, args := #[x, y], argTypes := #[t, tx] }, ty, pos, aft, g⟩ fr w (fun v' w' => v' = .int .i64 ((min m n : Nat) : Int) ∧ Sat (G (splice cs o (news.take (min m n * size)))) w') := by
  obtain ⟨k1, k2, k3, k4⟩ := hsrc
  refine does_value fun _ ds a hf => ?_
  obtain ⟨i, h1, h2⟩ := hA.out
  have hk : min m n * size ≤ m * size := Nat.mul_le_mul_right _ (Nat.min_le_left _ _)
  obtain ⟨w', hr, hS⟩ := run_storeCells (P := P) b o (news.take (min m n * size)) 0 cs w (hs.pull i h1) (by simp; omega) (fun v hv => k2 v (List.mem_of_mem_take hv))
  refine ⟨.int .i64 ((min m n : Nat) : Int), w', ?_, rfl, ?_⟩
  · simp [execOp, resolve, invoke, builtin, hf.ev hx, hf.ev hy, Builtin.copy_, TyU.run (P := P) (t := t) w, k3, TyI.run_size (P := P) (t := e) w, k4 w hs _ (Nat.min_le_left m n), hr, goInt]
  · exact At.upd (h := hA) hs hS
theorem does_copy0 {agg : Bool} {size bytes : Nat} {zero : List Value} [hT : TyU P t (.slice e)] [hI : TyI P e agg size bytes zero] {tx : TypeId} {n c m : Nat} {p : Option Addr} {news : List Value} (hs : Sat l w) (hx : ev fr x = some (.slice p n c)) (hy : ev fr y = some u) (hsrc : Src2 P size u m news l) (h0 : min m n = 0) :
    Does P r ⟨d, .call { callee := .builtin .copy, args := #[x, y], argTypes := #[t, tx] }, ty, pos, aft, g⟩ fr w (fun v' w' => v' = .int .i64 0 ∧ w' = w) := by
  obtain ⟨k1, k2, k3, k4⟩ := hsrc
  refine does_value fun _ ds a hf => ⟨.int .i64 0, w, ?_, rfl, rfl⟩
  have h4 := k4 w hs (min m n) (Nat.min_le_left m n)
  rw [h0] at h4
  simp only [Nat.zero_mul, List.take_zero] at h4
  have h0' : Nat.min m n = 0 := h0
  cases p <;> simp [execOp, resolve, invoke, builtin, hf.ev hx, hf.ev hy, Builtin.copy_, TyU.run (P := P) (t := t) w, k3, TyI.run_size (P := P) (t := e) w, h0, h4, goInt, storeCells]

/-! ### Bytes and texts -/
theorem push_all (ls : List UInt8) : ∀ s : ByteArray, (ls.map fun c => (c.toNat : Int)).foldl (fun r n => r.push (UInt8.ofNat n.toNat)) s = ⟨s.data ++ ls.toArray⟩ := by
  induction ls with
  | nil => intro s; simp
  | cons c ls ih =>
    intro s
    simp only [List.map_cons, List.foldl_cons]
    rw [ih]
    apply ByteArray.ext
    simp [ByteArray.push]
theorem la_tostr {src dst : TypeId} [h1 : TyU P src (.slice e)] [h2 : TyU P e (.int .u8)] [h3 : TyU P dst .string] {m : Nat} {ls : List UInt8} (hx : ev fr x = some v) (hr : RdS F 1 v m (bytesV ls)) [hF : Suf l F] (hs : Sat l w) : LooksAt P ⟨d, .convert src dst x, ty, pos, aft, g⟩ fr w (Sat F) (str ls) := by
  refine ⟨fun n ds a hf w hC => ?_, Suf.sat hs⟩
  obtain ⟨p, c, rfl, hc, hl, hp⟩ := hr
  simp only [bytesV_length, Nat.mul_one] at hl
  have hb : (Conv.bytesToString (.slice p m c)).run P w = .ok (str ls) w := by
    have key : ∀ ad : Addr, p = some ad → (loadCells ad m).run P w = .ok (bytesV ls).toArray w → (Conv.bytesToString (.slice p m c)).run P w = .ok (str ls) w := by
      rintro ad rfl hload
      have := run_bytesToString (P := P) w ad m c (ls.map fun c => (c.toNat : Int)) (by rw [hload]; simp [bytesV, List.map_map, Function.comp_def])
      rw [this, push_all]
      simp [str]
    by_cases h0 : 0 < m * 1
    · obtain ⟨b, o, rfl, hrd⟩ := hp h0
      refine key _ rfl ?_
      have := run_loadCells_list (P := P) w ⟨b, o, none⟩ (bytesV ls) (fun j u hj => by rw [Addr.add_lit]; exact hrd w hC j u hj)
      rwa [bytesV_length, hl] at this
    · have hm : m = 0 := by omega
      subst hm
      have hn : ls = [] := List.eq_nil_of_length_eq_zero hl
      subst hn
      cases p with
      | none => simp [Conv.bytesToString]; rfl
      | some ad => exact key ad rfl (by have := run_loadCells_list (P := P) w ad [] (by simp); simpa [bytesV] using this)
  have := run_convert_bytes_string (P := P) w src dst e p m c h1.h h2.h h3.h
  simp [execOp, hf.ev hx, this, hb]
end
end Go.Sl
