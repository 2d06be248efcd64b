/-
  More laws: slices of one-cell elements put together; append of noughts; results that lie in a cell. Nothing of a program stands here.
-/
import Derived.Test.YtcahpllliflloaaRf
set_option linter.unusedVariables false
set_option linter.unusedSimpArgs false
namespace Go.Sl
open Go
section
variable {P : Program} {r : Option Nat} {fr : Fr} {d : Option Tmp} {ty : TypeId} {pos : String} {aft : Array Edge} {g : Option (Nat × Bool)} {v u z vx vy : Value} {x y c i : Operand} {t s e : TypeId} {w : World} {l F : List Assn} {b o : Nat} {cs : List Value} {G : List Value → List Assn}

/-! ### Slices of one-cell elements, put together -/
def upto : Nat → Nat → List Nat
  | _, 0 => []
  | k, n + 1 => k :: upto (k + 1) n
def ones : Nat → List Value → List (Nat × List Value)
  | _, [] => []
  | k, v :: vs => (k, [v]) :: ones (k + 1) vs
theorem lay_ones : ∀ (vs a zs : List Value), zs.length = vs.length → lay (fun i => some (i * 1, 1)) (a ++ zs) (ones a.length vs) = some (a ++ vs)
  | [], a, zs, h => by
    have : zs = [] := List.eq_nil_of_length_eq_zero h
    subst this; rfl
  | v :: vs, a, z :: zs, h => by
    simp only [ones, lay, splice]
    rw [show a.length * 1 = a.length from Nat.mul_one _]
    have e : (a ++ z :: zs).set a.length v = (a ++ [v]) ++ zs := by simp [List.set_append]
    rw [e]
    have := lay_ones vs (a ++ [v]) zs (by simpa using h)
    rw [List.length_append, List.length_singleton] at this
    rw [this]
    simp
theorem layOk_ones (n : Nat) : ∀ (vs : List Value) (k : Nat), k + vs.length ≤ n → layOk (fun i => some (i * 1, 1)) n (ones k vs)
  | [], _, _ => trivial
  | v :: vs, k, h => ⟨⟨k * 1, rfl, by simp at h ⊢; omega⟩, layOk_ones n vs (k + 1) (by simp at h ⊢; omega)⟩
theorem evps_ones {fr : Fr} : ∀ (ps : List (Nat × Operand)) (vs : List Value) (k : Nat), ps.map (·.1) = upto k vs.length → evs fr (ps.map (·.2)) = some vs → evps fr ps = some ((upto k vs.length).zip vs)
  | [], vs, k, h1, h2 => by simp [evs] at h2; subst h2; rfl
  | (i, x) :: ps, vs, k, h1, h2 => by
    simp only [List.map_cons, evs] at h2
    split at h2
    · rename_i v vs' e1 e2
      cases h2
      simp only [List.length_cons, upto, List.map_cons, List.cons.injEq] at h1
      obtain ⟨rfl, h1⟩ := h1
      simp only [evps, e1, evps_ones ps vs' (i + 1) h1 e2, List.length_cons, upto, List.zip_cons_cons]
    · cases h2
theorem zip_ones : ∀ (vs : List Value) (k : Nat), (∀ v ∈ vs, v.oneCell' = true) → ((upto k vs.length).zip vs).map (fun p => (p.1, p.2.cells)) = (ones k vs).map (fun p => (p.1, p.2.toArray))
  | [], _, _ => rfl
  | v :: vs, k, h => by
    simp only [List.length_cons, upto, List.zip_cons_cons, List.map_cons, ones]
    rw [zip_ones vs (k + 1) fun u hu => h u (List.mem_cons_of_mem _ hu), oneCell'_cells (h v List.mem_cons_self)]
/-- A new row of one-cell elements, put together. -/
theorem does_buildL {bytes : Nat} {zero : List Value} [hT : TyU P t (.slice e)] [hI : TyI P e false 1 bytes zero] {n : Nat} {ps : Array (Nat × Operand)} {vs : List Value} (hs : Sat l w) (hv : evs fr (ps.toList.map (·.2)) = some vs)
    (hp : ps.toList.map (·.1) = upto 0 vs.length) (hn : vs.length = n) (h1 : ∀ v ∈ vs, v.oneCell' = true) (hb : Nat.ble n 16777216 = true) :
    Does P r ⟨d, .buildSlice t n ps, ty, pos, aft, g⟩ fr w (fun v w' => ∃ b, v = .slice (some ⟨b, 0, none⟩) n n ∧ Sat (blk b vs e :: l) w') := by
  obtain ⟨i, hi, h2, h3, h4, h5, h6, h7⟩ := hI.info
  have hz : (rep n zero).length = vs.length := by rw [rep_length, h6, hn, Nat.mul_one]
  refine does_buildSlice (zero := zero) (size := 1) (agg := false) (ls := ones 0 vs) (out := vs) hs (evps_ones _ vs 0 hp hv) (zip_ones vs 0 h1) ?_ ?_ (by simpa using hb)
  · exact layOk_ones _ vs 0 (by rw [hz]; omega)
  · exact lay_ones vs [] (rep n zero) hz

/-! ### Append of noughts -/
theorem rep_zeroCells (z : List Value) (n : Nat) (hz : 0 < z.length) : Builtin.zeroCells z.toArray n = (rep n z).toArray := by
  rw [← zeros_eq n z (.inr hz)]
  unfold Builtin.zeroCells madeCells
  simp
theorem run_append0 {agg : Bool} {size bytes : Nat} {zero : List Value} [hT : TyU P t (.slice e)] [hI : TyI P e agg size bytes zero] {tx : TypeId} {kd : IntKind} [hK : TyU P tx (.int kd)] {kv : IntKind} {n m : Nat} {xs : List Value} (ty : TypeId) (hs : Sat (sl v e size n xs :: l) w) (h0 : 0 < size) (hb : (n + m) * bytes ≤ 140737488355328) (hm : n + m ≤ 9223372036854775807) :
    ∃ v' w', (Builtin.append_ #[t, tx] ty #[v, .int kv (m : Int)]).run P w = .ok v' w' ∧ ∀ rest, Sat (sl v e size n xs :: rest) w → Sat (sl v' e size (n + m) (xs ++ rep m zero) :: rest) w' := by
  obtain ⟨i, hi, h2, h3, h4, h5, h6, h7⟩ := hI.info
  have hzc := TyI.zero_cells P e (agg := agg) (zero := zero)
  have hzA : ∀ w' : World, (zeroValue e).run P w' = .ok (if agg then .agg zero.toArray else zero.headD undef) w' := fun w' => TyI.run_zero (P := P) (t := e) w'
  generalize (if agg then Value.agg zero.toArray else zero.headD undef) = z0 at hzc hzA
  have hw1 : IntKind.i64.wrap (m : Int) = m := wrap64 (by omega)
  have hneg : ¬ ((m : Int) < 0) := by omega
  have hbig : ¬ (281474976710656 < (m : Int) * (i.bytes : Int)) := by
    have h9 : m * bytes ≤ (n + m) * bytes := Nat.mul_le_mul_right _ (by omega)
    have : ((m * bytes : Nat) : Int) ≤ 140737488355328 := by omega
    rw [Int.natCast_mul] at this; rw [h3]; omega
  have hlen : (rep m zero).length = m * size := by rw [rep_length, h6]
  have hones : ∀ u ∈ rep m zero, u.oneCell' = true := by
    intro u hu
    unfold rep at hu
    obtain ⟨z', hz', hu'⟩ := List.mem_flatten.1 hu
    rw [(List.mem_replicate.1 hz').2] at hu'
    exact List.all_eq_true.1 h7 u hu'
  have grow : ∀ (base : Option Addr) (c : Nat), v = .slice base n c → n ≤ c → c < n + m → (Builtin.firstCells i.size n (.slice base n c)).run P w.drew = .ok xs.toArray w.drew → xs.length = n * size →
      ∃ v' w', (Builtin.append_ #[t, tx] ty #[v, .int kv (m : Int)]).run P w = .ok v' w' ∧ ∀ rest, Sat (sl v e size n xs :: rest) w → Sat (sl v' e size (n + m) (xs ++ rep m zero) :: rest) w' := by
    rintro base c rfl hnc hc hold hxl
    have hn : ¬ (n + m ≤ c) := by omega
    have h63' : ¬ (9223372036854775807 < ((n : Int) + (m : Int))) := by omega
    have hfit := growslice_fits (need := n + m) (old := c) (bytes := i.bytes) hc (by rw [h3]; exact hb)
    have h48' : ¬ (281474976710656 < Builtin.nextslicecap (n + m) c * i.bytes) := by omega
    have hr : (Builtin.append_ #[t, tx] ty #[.slice base n c, .int kv (m : Int)]).run P w =
      .ok (.slice (some ⟨w.heap.size, 0, none⟩) (n + m) (grownCap w (n + m) c e))
        (w.drew.alloc (.cells ((xs ++ rep m zero).toArray ++ Builtin.zeroCells zero.toArray (grownCap w (n + m) c e - (n + m))) e)) := by
      by_cases hz' : m * i.size = 0
      · have hre : rep m zero = [] := List.eq_nil_of_length_eq_zero (by rw [hlen, ← h2]; exact hz')
        have hm0 : m = 0 := by
          rcases Nat.mul_eq_zero.1 hz' with h | h
          · exact h
          · omega
        omega
      · have hm0 : ¬ m = 0 := by rintro rfl; simp at hz'
        have hsz0 : ¬ i.size = 0 := by intro h; rw [h] at hz'; simp at hz'
        simp [Builtin.append_, run_underlying hT.h, run_underlying hK.h, sizeOf, typeInfo, hi, asInt, asIntOf, hw1, hneg, hbig, hn, h63', h48', hz', Question.forced, hold, hzA, hzc, newRow, grownCap]
        congr 2
        apply Array.ext'
        simp [rep_zeroCells zero m (by omega), List.append_assoc]
    refine ⟨_, _, hr, fun rest hrest => ?_⟩
    have hge := grownCap_ge w (n + m) c e
    have hzl : (Builtin.zeroCells zero.toArray (grownCap w (n + m) c e - (n + m))).size = (grownCap w (n + m) c e - (n + m)) * size := by
      rw [size_zeroCells]; simp [h6]
    have hal := (hrest.tail.drew).alloc (xs ++ rep m zero ++ (Builtin.zeroCells zero.toArray (grownCap w (n + m) c e - (n + m))).toList) e
    have hd : w.drew.heap.size = w.heap.size := rfl
    rw [hd] at hal
    have he : (xs ++ rep m zero ++ (Builtin.zeroCells zero.toArray (grownCap w (n + m) c e - (n + m))).toList).toArray = (xs ++ rep m zero).toArray ++ Builtin.zeroCells zero.toArray (grownCap w (n + m) c e - (n + m)) := by simp
    rw [he] at hal
    refine hal.sl_mk (c := grownCap w (n + m) c e) hge (by simp [hxl, hlen, Nat.add_mul]) ?_
    simp only [List.length_append, hxl, hlen, Array.length_toList, hzl, ← Nat.add_mul]
    congr 1; omega
  rcases hs.sl_cases with ⟨rfl, rfl, rfl, hl⟩ | ⟨b, c, spare, rfl, hnc, hxl, hcl, hl⟩
  · by_cases hm0 : m = 0
    · subst hm0
      refine ⟨.slice none 0 0, w, ?_, fun rest h => by simpa [rep] using h⟩
      have e0 : IntKind.i64.wrap 0 = 0 := wrap64 (by omega)
      simp [Builtin.append_, run_underlying hT.h, run_underlying hK.h, sizeOf, typeInfo, hi, asInt, asIntOf, e0]
    · exact grow none 0 rfl (by omega) (by omega) (run_firstCells_none w.drew i.size 0 0 0) (by simp)
  · by_cases hroom : n + m ≤ c
    · have hnl : n * size + (rep m zero).length ≤ (xs ++ spare).length := by
        rw [List.length_append, hcl, hlen, ← Nat.add_mul]; exact Nat.mul_le_mul_right _ hroom
      obtain ⟨w', hr, hS⟩ := run_storeCells (P := P) b (n * size) (rep m zero) 0 (xs ++ spare) w hl (by omega) hones
      refine ⟨.slice (some ⟨b, 0, none⟩) (n + m) c, w', ?_, fun rest hrest => ?_⟩
      · by_cases hz' : m * i.size = 0
        · have hre : rep m zero = [] := List.eq_nil_of_length_eq_zero (by rw [hlen, ← h2]; exact hz')
          rw [hre] at hr
          have hm0 : m = 0 := by
            rcases Nat.mul_eq_zero.1 hz' with h | h
            · exact h
            · omega
          subst hm0
          have e0 : IntKind.i64.wrap 0 = 0 := wrap64 (by omega)
          have hroom' : n ≤ c := hnc
          simp [Builtin.append_, run_underlying hT.h, run_underlying hK.h, sizeOf, typeInfo, hi, asInt, asIntOf, e0, hroom', h2, Addr.add_lit, hr]
        · have hm0 : ¬ m = 0 := by rintro rfl; simp at hz'
          have hz2 : ¬ m * size = 0 := by rw [← h2]; exact hz'
          simp [Builtin.append_, run_underlying hT.h, run_underlying hK.h, sizeOf, typeInfo, hi, asInt, asIntOf, hw1, hneg, hbig, hroom, hz2, hzA, hzc, h2, Addr.add_lit, rep_zeroCells zero m (by omega), hr]
      · rcases hrest.sl_cases with ⟨hv, _⟩ | ⟨b', c', spare', hv, _, _, hcl', hl'⟩
        · cases hv
        · cases hv
          have hsp : spare' = spare := by
            obtain ⟨f, e1, _⟩ := hl.blk_heap
            obtain ⟨f', e2, _⟩ := hl'.blk_heap
            rw [e1] at e2
            have e3 := Option.some.inj e2
            injection e3 with e3
            have e4 : xs ++ spare = xs ++ spare' := by
              have := congrArg Array.toList e3
              simpa using this
            exact (List.append_cancel_left e4).symm
          subst hsp
          have := hS rest hl'
          rw [Nat.add_zero, ← hxl, splice_eq (rep m zero) (xs ++ spare') xs.length (by rw [hxl]; exact hnl), List.take_left, hxl] at this
          have hdrop : List.drop (n * size + (rep m zero).length) (xs ++ spare') = spare'.drop (rep m zero).length := by rw [← hxl, ← List.drop_drop, List.drop_left]
          rw [hdrop] at this
          refine this.sl_mk hroom (by simp [hxl, hlen, Nat.add_mul]) ?_
          simp only [List.length_append, List.length_drop] at hnl ⊢
          omega
    · refine grow (some ⟨b, 0, none⟩) c rfl hnc (by omega) ?_ hxl
      rw [h2]
      refine run_firstCells_some w.drew size n ⟨b, 0, none⟩ n c xs hxl fun j x hj => ?_
      rw [Addr.add_lit]
      have := hl.blk_cell (0 + j)
      rw [Nat.zero_add] at this ⊢
      show w.cell? _ = _
      rw [this, List.getElem?_append_left (List.getElem?_eq_some_iff.1 hj).1]
      exact hj
theorem does_append0 {agg : Bool} {size bytes : Nat} {zero : List Value} [hT : TyU P t (.slice e)] [hI : TyI P e agg size bytes zero] {tx : TypeId} {kd : IntKind} [hK : TyU P tx (.int kd)] {kv : IntKind} {n m : Nat} {m' : Int} {xs : List Value} {G : Assn → List Assn} [hA : AtS l v e size n xs G] (hs : Sat l w) (hx : ev fr x = some v) (hy : ev fr y = some (.int kv m')) (hm' : m' = (m : Int)) (h0 : Nat.blt 0 size = true) (hb : (n + m) * bytes ≤ 140737488355328) (hm : n + m ≤ 9223372036854775807) :
    Does P r ⟨d, .call { callee := .builtin .append, args := #[x, y], argTypes := #[t, tx] }, ty, pos, aft, g⟩ fr w (fun v' w' => Sat (G (sl v' e size (n + m) (xs ++ rep m zero))) w') := by
  subst hm'
  refine does_value fun _ ds a hf => ?_
  obtain ⟨i, h1, h2⟩ := hA.out
  obtain ⟨v', w', hr, hS⟩ := run_append0 (P := P) (t := t) (tx := tx) (kv := kv) (m := m) ty (hs.pull i h1) (by simpa using h0) hb hm
  refine ⟨v', w', ?_, ?_⟩
  · simp [execOp, resolve, invoke, builtin, hf.ev hx, hf.ev hy, hr]
  · rw [h2]; exact hs.set_at i h1 hS
end

/-! ### A result that lies in a cell -/
section
variable {P : Program} {n : Nat} {fr : Fr} {w : World} {fn : Func} {Post : Value → World → Prop} {k : List It} {l : List Assn} {b o : Nat} {cs : List Value} {t e : TypeId} {G : List Value → List Assn}
theorem run_results_cell {agg : Bool} {size bytes : Nat} {zero : List Value} {s : Nat} {ds : List Deferred} {a : Act} [hI : TyI P t agg size bytes zero] [hA : At l b cs e G] (hf : Fits n ds fr a) (hr : fn.results = #[.cell s t]) (hs : Sat l w) (hx : lk fr s = some (.pointer (some ⟨b, o, none⟩))) {vs : List Value} (h : (cs.drop o).take size = vs) (hl : vs.length = size) (h0 : Nat.blt 0 size = true) :
    (results fn a.tmps).run P w = .ok (valOf agg vs) w := by
  have hC := At.sat (h := hA) hs
  have hlen : ∀ (j : Nat) (u : Value), vs[j]? = some u → w.cell? ⟨b, o + j, none⟩ = some u := fun j u hj => by
    rw [hC.blk_cell (o + j)]
    rw [← h, List.getElem?_take] at hj
    split at hj
    · rwa [List.getElem?_drop] at hj
    · cases hj
  have h1 := run_loadVar (P := P) (t := t) (w := w) (b := b) o vs hl hlen
  unfold results
  rw [hr]
  simp [hf.slot s _ hx, Array.getD_eq_getD_getElem?, asAddr, h1]
theorem MC.retC {agg : Bool} {size bytes : Nat} {zero : List Value} {s : Nat} [hI : TyI P t agg size bytes zero] [hA : At l b cs e G] (hr : fn.results = #[.cell s t]) (hs : Sat l w) (hx : lk fr s = some (.pointer (some ⟨b, o, none⟩))) {vs : List Value} (h : (cs.drop o).take size = vs) (hl : vs.length = size) (h0 : Nat.blt 0 size = true) (hP : Post (valOf agg vs) w) :
    MC ⟨P, none, n, bodyPost P fn fun e w' => ∃ v, e = .returned v ∧ Post v w'⟩ [] (.code .ret :: k) fr w := fun _ hf =>
  wpIn_ret (by rw [post_ret]; exact ⟨hf.defers, _, run_results_cell hf hr hs hx h hl h0, _, rfl, hP⟩)
theorem MC.endC {agg : Bool} {size bytes : Nat} {zero : List Value} {s : Nat} [hI : TyI P t agg size bytes zero] [hA : At l b cs e G] (hr : fn.results = #[.cell s t]) (hs : Sat l w) (hx : lk fr s = some (.pointer (some ⟨b, o, none⟩))) {vs : List Value} (h : (cs.drop o).take size = vs) (hl : vs.length = size) (h0 : Nat.blt 0 size = true) (hP : Post (valOf agg vs) w) :
    MC ⟨P, none, n, bodyPost P fn fun e w' => ∃ v, e = .returned v ∧ Post v w'⟩ [] [] fr w := fun _ hf =>
  ⟨hf.defers, _, run_results_cell hf hr hs hx h hl h0, _, rfl, hP⟩
end
/-! ### A point that several ways lead to, in one of several states -/
theorem MC.cutAtS {σ : Type} {X : Cx} {ds : List Deferred} {k : List It} {fr : Fr} {w : World} (j : Nat) (F : σ → Fr) (I : σ → World → Prop) (hn : noOps (k.take j) = true) (h2 : ∀ s w', I s w' → MC X ds (k.drop j) (F s) w')
    (h1 : MC X ds (k.take j ++ .goal (fun a' w' => ∃ s, Fits X.n ds (F s) a' ∧ I s w') :: k.drop j) fr w) : MC X ds k fr w := fun a hf => by
  have := post_cut (fun a w ⟨s, h, hI⟩ => h2 s w hI a h) (k.take j) .normal a w hn (h1 a hf)
  rwa [List.take_append_drop] at this
theorem MC.meetS {σ : Type} {X : Cx} {ds : List Deferred} {k : List It} {fr : Fr} {w : World} {F : σ → Fr} {I : σ → World → Prop} (s : σ) (hF : incl fr (F s)) (hI : I s w) : MC X ds (.goal (fun a' w' => ∃ s, Fits X.n ds (F s) a' ∧ I s w') :: k) fr w :=
  fun _ hf => ⟨s, hf.sub hF.sub, hI⟩
end Go.Sl
