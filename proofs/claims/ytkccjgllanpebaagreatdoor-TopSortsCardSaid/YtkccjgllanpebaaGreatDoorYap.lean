/-
  Results in whatever cells; append in place, clear, overlaps, append of zeros where there is no room; compare | Bytes of a constant text: a row put together, and turned into its own type (the run-time marks the place behind it) | The device: what is open | The device: a loss of power | The laws' helpers: the examples | Values as they lie on the heap; how much they are (Bulk) | The cache: what one says of the heap; find, pinned, sweep | Roots: numbers as bytes, and sums
-/
import Derived.Test.YtkccjgllanpebaaGreatDoorYam
import Derived.Test.YtkccjgllanpebaaGreatDoorYao
import Derived.Test.YtkccjgllanpebaaGreatDoorYai
import Derived.Lib.Overlaps
import Derived.Lib.Bytealg
import Derived.Lib.BytesEntry
import Derived.Test.YtkccjgllanpebaaGreatDoorYaf
set_option linter.unusedVariables false
set_option linter.unusedSimpArgs false
namespace Go.Sl
open Go
def ResOk (P : Program) (fr : Fr) (w : World) : List ResultVar → List Value → Prop
  | [], [] => True
  | .tmp t :: r, v :: vs => lk fr t = some v ∧ ResOk P fr w r vs
  | .cell a T :: r, v :: vs => (∃ ad, lk fr a = some (.pointer (some ad)) ∧ (loadVar T ad).run P w = .ok v w) ∧ ResOk P fr w r vs
  | _, _ => False
theorem run_resultsC {P : Program} {fn : Func} {fr : Fr} {n : Nat} {ds : List Deferred} {a : Act} {vs : List Value} {w : World} (hf : Fits n ds fr a) (hr : ResOk P fr w fn.results.toList vs) : (results fn a.tmps).run P w = .ok (tup vs) w := by
  have key : ∀ (f : ResultVar → Sem Value), (∀ t, f (.tmp t) = pure (a.tmps.getD t undef)) → (∀ s T, f (.cell s T) = (do loadVar T (← asAddr (a.tmps.getD s undef)))) → ∀ (l : List ResultVar) (vs : List Value), ResOk P fr w l vs → ((l.mapM f : Sem (List Value))).run P w = .ok vs w := by
    intro f hfm hfc l
    induction l with
    | nil => intro vs h; cases vs with
      | nil => simp
      | cons _ _ => exact h.elim
    | cons x l ih =>
      intro vs h
      cases vs with
      | nil => cases x <;> exact h.elim
      | cons v vs =>
        cases x with
        | tmp t =>
          obtain ⟨h1, h2⟩ := h
          have := ih vs h2
          simp only [List.mapM_cons, hfm]
          rw [Sem.run_bind]
          simp only [Sem.run_pure, Result.andThen_ok, Sem.run_bind]
          rw [this]
          simp [hf.slot t v h1, Array.getD_eq_getD_getElem?]
        | cell s T =>
          obtain ⟨⟨ad, h1, h3⟩, h2⟩ := h
          have := ih vs h2
          simp only [List.mapM_cons, hfc]
          simp [hf.slot s _ h1, Array.getD_eq_getD_getElem?, asAddr, h3, this]
  unfold results
  rw [Array.mapM_eq_mapM_toList]
  simp only [Sem.run_bind]
  simp only [map_eq_pure_bind, Sem.run_bind]
  rw [key _ (fun t => rfl) (fun s T => rfl) _ _ hr]
  simp only [Result.andThen_ok, Sem.run_pure]
  match vs with
  | [] => rfl
  | [v] => rfl
  | v :: u :: vs => simp [tup]
theorem load_cell {P : Program} {l : List Assn} {b : Nat} {cs : List Value} {t e : TypeId} {agg : Bool} {size bytes : Nat} {zero : List Value} {G : List Value → List Assn} {w : World} [hI : TyI P t agg size bytes zero] [hA : At l b cs e G] (hs : Sat l w) (hl : cs.length = size) : (loadVar t ⟨b, 0, none⟩).run P w = .ok (valOf agg cs) w := by
  have hC := At.sat (h := hA) hs
  exact run_loadVar (P := P) (t := t) (w := w) (b := b) 0 cs hl (fun j u hj => by rw [hC.blk_cell]; rw [Nat.zero_add]; exact hj)
theorem load_cellA {P : Program} {l : List Assn} {b : Nat} {cs : List Value} {t e : TypeId} {size bytes : Nat} {zero : List Value} {G : List Value → List Assn} {w : World} [hI : TyI P t true size bytes zero] [hA : At l b cs e G] (hs : Sat l w) (hl : cs.length = size) : (loadVar t ⟨b, 0, none⟩).run P w = .ok (.agg cs.toArray) w := by
  have := load_cell (P := P) (t := t) (agg := true) (hA := hA) hs hl
  exact this
section
variable {P : Program} {n : Nat} {ds : List Deferred} {fr : Fr} {w : World} {fn : Func} {Post : Value → World → Prop} {k : List It}
theorem MC.retR {vs : List Value} (hr : ResOk P fr w fn.results.toList vs) (h : Post (tup vs) w) : MC ⟨P, none, n, bodyPost P fn fun e w' => ∃ v, e = .returned v ∧ Post v w'⟩ [] (.code .ret :: k) fr w := fun _ hf =>
  wpIn_ret (by rw [post_ret]; exact ⟨hf.defers, _, run_resultsC hf hr, _, rfl, h⟩)
end
section
variable {P : Program} {r : Option Nat} {fr : Fr} {d : Option Tmp} {ty : TypeId} {pos : String} {aft : Array Edge} {g : Option (Nat × Bool)} {v u z vx vy : Value} {x y c i : Operand} {t s e : TypeId} {w : World} {l F : List Assn} {b o : Nat} {cs : List Value} {G : List Value → List Assn}
theorem does_appendIn {agg : Bool} {size bytes : Nat} {zero : List Value} {e' e2 : TypeId} [hT : TyU P t (.slice e)] [hI : TyI P e agg size bytes zero] [hA : At l b cs e' G] {tx : TypeId} [hX : TyU P tx (.slice e2)] {n c m : Nat} {news : List Value} (hs : Sat l w) (hx : ev fr x = some (.slice (some ⟨b, o, none⟩) n c)) (hy : ev fr y = some u) (hsrc : Src2 P size u m news l) (hroom : n + m ≤ c) (hlen : o + n * size + m * size ≤ cs.length) :
    Does P r ⟨d, .call { callee := .builtin .append, args := #[x, y], argTypes := #[t, tx] }, ty, pos, aft, g⟩ fr w (fun v' w' => v' = .slice (some ⟨b, o, none⟩) (n + m) c ∧ Sat (G (splice cs (o + n * size) news)) w') := by
  obtain ⟨k1, k2, k3, k4⟩ := hsrc
  obtain ⟨i, hi, h2, h3, h4, h5, h6, h7⟩ := hI.info
  refine does_value fun _ ds a hf => ?_
  obtain ⟨j, h1, h2'⟩ := hA.out
  obtain ⟨w', hr, hS⟩ := run_storeCells (P := P) b (o + n * size) news 0 cs w (hs.pull j h1) (by rw [k1]; omega) k2
  have hfc := k4 w hs m (Nat.le_refl _)
  rw [← k1, List.take_length, ← h2] at hfc
  refine ⟨.slice (some ⟨b, o, none⟩) (n + m) c, w', ?_, rfl, ?_⟩
  · simp [execOp, resolve, invoke, builtin, hf.ev hx, hf.ev hy, Builtin.append_, run_underlying hT.h, run_underlying hX.h, sizeOf, typeInfo, hi, k3, hroom, hfc, h2, Addr.add_lit, hr]
    rw [h2] at hfc
    simp [hfc, hr]
  · exact At.upd (h := hA) hs hS
theorem does_copyM {agg : Bool} {size bytes : Nat} {zero : List Value} {e' : TypeId} [hT : TyU P t (.slice e)] [hI : TyI P e agg size bytes zero] [hA : At l b cs e' G] {tx : TypeId} {n c m c2 b2 o2 : Nat} {news : List Value} (hs : Sat l w) (hx : ev fr x = some (.slice (some ⟨b, o, none⟩) n c)) (hy : ev fr y = some (.slice (some ⟨b2, o2, none⟩) m c2))
    (hrd : ∀ (j : Nat) (u : Value), news[j]? = some u → w.cell? ⟨b2, o2 + j, none⟩ = some u) (hnl : news.length = min m n * size) (h1 : ∀ v ∈ news, v.oneCell' = true) (hlen : o + min m n * size ≤ cs.length) :
    Does P r ⟨d, .call { callee := .builtin .copy, args := #[x, y], argTypes := #[t, tx] }, ty, pos, aft, g⟩ fr w (fun v' w' => v' = .int .i64 ((min m n : Nat) : Int) ∧ Sat (G (splice cs o news)) w') := by
  refine does_value fun _ ds a hf => ?_
  obtain ⟨i, g1, g2⟩ := hA.out
  obtain ⟨w', hr, hS⟩ := run_storeCells (P := P) b o news 0 cs w (hs.pull i g1) (by omega) h1
  have hfc : (Builtin.firstCells size (min m n) (.slice (some ⟨b2, o2, none⟩) m c2)).run P w = .ok news.toArray w :=
    run_firstCells_some w size (min m n) ⟨b2, o2, none⟩ m c2 news hnl fun j u hj => by rw [Addr.add_lit]; exact hrd j u hj
  refine ⟨.int .i64 ((min m n : Nat) : Int), w', ?_, rfl, ?_⟩
  · simp [execOp, resolve, invoke, builtin, hf.ev hx, hf.ev hy, Builtin.copy_, TyU.run (P := P) (t := t) w, Builtin.lenOf, TyI.run_size (P := P) (t := e) w, hfc, hr, goInt]
  · exact At.upd (h := hA) hs hS
theorem Rd.of_obj {b : Nat} {cs : List Value} {e : TypeId} {F : List Assn} : Rd (obj b (.cells cs.toArray e) :: F) b 0 cs := fun w hs j u hu => by
  have := hs.obj_heap
  simp only [World.cell?, this, Nat.zero_add, List.getElem?_toArray, hu]
  simp
theorem RdS.of_obj {b n c : Nat} {cs : List Value} {e : TypeId} {F : List Assn} (hn : cs.length = n) (hc : n ≤ c) : RdS (obj b (.cells cs.toArray e) :: F) 1 (.slice (some ⟨b, 0, none⟩) n c) n cs :=
  ⟨_, _, rfl, hc, by rw [hn, Nat.mul_one], fun _ => ⟨b, 0, rfl, Rd.of_obj⟩⟩
theorem run_apart {R : List Assn} {w : World} {tS tR e e1 e2 : TypeId} {size bytes : Nat} {agg : Bool} {zero : List Value} [hT : TyU P tS (.slice e)] [hI : TyI P e agg size bytes zero] {b1 b2 o1 o2 la ca lb cb : Nat} {cs1 cs2 : List Value} {G2 : List Value → List Assn} [hF : Suf l (obj b1 (.cells cs1.toArray e1) :: R)] [hB : At l b2 cs2 e2 G2] (hs : Sat l w) (hne : b1 ≠ b2) (h2 : cs2 ≠ []) :
    (Extern.SlicesOverlaps.overlaps #[tS, tS] #[tR] #[.slice (some ⟨b1, o1, none⟩) la ca, .slice (some ⟨b2, o2, none⟩) lb cb]).run P w = .ok (.bool false) w := by
  have g1 := (Suf.sat hs (h := hF)).obj_heap
  obtain ⟨f2, g3, _⟩ := (At.sat (h := hB) hs).blk_heap
  refine Lib.run_overlaps_apart w tS tR e hT.h size (fun w => TyI.run_size (P := P) (t := e) w) ⟨b1, o1, none⟩ ⟨b2, o2, none⟩ la ca lb cb hne e1 e2 cs1.length cs2.length ?_ ?_ ?_ ?_ ?_
  · simp [World.shape?, g1]
  · simp [World.shape?, g3]
  · cases cs2 with
    | nil => exact absurd rfl h2
    | cons _ _ => simp
  · simp [World.frozen?, g1]
  · simp [World.frozen?, g1]
theorem obj_ne {b1 b2 : Nat} {o : Obj} {cs : List Value} {e : TypeId} {R : List Assn} {w : World} (hs : Sat (blk b2 cs e :: obj b1 o :: R) w) : b1 ≠ b2 := by
  rintro rfl
  obtain ⟨h1, h2, ap, l1, l2, ⟨f, hA, _⟩, h3, h4, _, l3, _, hB, _⟩ := hs
  have hB : h3 b1 = some o := hB
  rcases ap b1 with h | h
  · rw [hA] at h; cases h
  · rw [l3 b1 o hB] at h; cases h
theorem does_append0G {agg : Bool} {size bytes : Nat} {zero : List Value} [hT : TyU P t (.slice e)] [hI : TyI P e agg size bytes zero] {tx : TypeId} {kd : IntKind} [hK : TyU P tx (.int kd)] {kv : IntKind} {n m c : Nat} {m' : Int} {q : Option Addr} {xs : List Value} (hs : Sat l w) (hr : RdS F size (.slice q n c) n xs) [hF : Suf l F]
    (hx : ev fr x = some (.slice q n c)) (hy : ev fr y = some (.int kv m')) (h0 : 0 < size) (hm' : m' = (m : Int)) (hm1 : 0 < m) (hcm : c < n + m) (hb : (n + m) * bytes ≤ 140737488355328) (hm : n + m ≤ 9223372036854775807) :
    Does P r ⟨d, .call { callee := .builtin .append, args := #[x, y], argTypes := #[t, tx] }, ty, pos, aft, g⟩ fr w (fun v' w' => Sat (sl v' e size (n + m) (xs ++ rep m zero) :: l) w') := by
  subst hm'
  obtain ⟨i, hi, h2, h3, h4, h5, h6, h7⟩ := hI.info
  have hzc := TyI.zero_cells P e (agg := agg) (zero := zero)
  have hzA : ∀ w' : World, (zeroValue e).run P w' = .ok (if agg then .agg zero.toArray else zero.headD undef) w' := fun w' => TyI.run_zero (P := P) (t := e) w'
  generalize (if agg then Value.agg zero.toArray else zero.headD undef) = z0 at hzc hzA
  have hw1 : IntKind.i64.wrap (m : Int) = m := wrap64 (by omega)
  have hneg : ¬ ((m : Int) < 0) := by omega
  have hbig : ¬ (281474976710656 < (m : Int) * (i.bytes : Int)) := by
    have h9 : m * bytes ≤ (n + m) * bytes := Nat.mul_le_mul_right _ (by omega)
    have : ((m * bytes : Nat) : Int) ≤ 140737488355328 := by omega
    rw [Int.natCast_mul] at this; rw [h3]; omega
  have hlen : (rep m zero).length = m * size := by rw [rep_length, h6]
  obtain ⟨p', c', e', hc', hxl, hp⟩ := hr
  injection e' with e1 e2 e3
  subst e1; subst e3
  have hold : (Builtin.firstCells i.size n (.slice q n c)).run P w.drew = .ok xs.toArray w.drew := by
    rcases Nat.eq_zero_or_pos (n * size) with hz | hz
    · have hn0 : n = 0 := by
        rcases Nat.mul_eq_zero.1 hz with h | h
        · exact h
        · omega
      subst hn0
      have : xs = [] := List.eq_nil_of_length_eq_zero (by simpa using hxl)
      subst this
      cases q with
      | none => exact run_firstCells_none w.drew i.size 0 0 c
      | some a =>
        rw [h2]
        exact run_firstCells_some w.drew size 0 a 0 c [] (by simp) fun j x hj => by simp at hj
    · obtain ⟨b, o, rfl, hrd⟩ := hp hz
      rw [h2]
      refine run_firstCells_some w.drew size n ⟨b, o, none⟩ n c xs hxl fun j x hj => ?_
      rw [Addr.add_lit]
      exact hrd w (Suf.sat hs) j x hj
  have hn : ¬ (n + m ≤ c) := by omega
  have h63' : ¬ (9223372036854775807 < ((n : Int) + (m : Int))) := by omega
  have hfit := growslice_fits (need := n + m) (old := c) (bytes := i.bytes) (by omega) (by rw [h3]; exact hb)
  have h48' : ¬ (281474976710656 < Builtin.nextslicecap (n + m) c * i.bytes) := by omega
  have hm0 : ¬ m = 0 := by omega
  have hsz0 : ¬ i.size = 0 := by omega
  have hz' : ¬ m * i.size = 0 := by
    intro h
    rcases Nat.mul_eq_zero.1 h with h | h <;> omega
  have hrr : (Builtin.append_ #[t, tx] ty #[.slice q n c, .int kv (m : Int)]).run P w =
    .ok (.slice (some ⟨w.heap.size, 0, none⟩) (n + m) (grownCap w (n + m) c e))
      (w.drew.alloc (.cells ((xs ++ rep m zero).toArray ++ Builtin.zeroCells zero.toArray (grownCap w (n + m) c e - (n + m))) e)) := by
    simp [Builtin.append_, run_underlying hT.h, run_underlying hK.h, sizeOf, typeInfo, hi, asInt, asIntOf, hw1, hneg, hbig, hn, h63', h48', hz', hm0, hsz0, Question.forced, hold, hzA, hzc, newRow, grownCap]
    congr 2
    apply Array.ext'
    simp [rep_zeroCells zero m (by omega), List.append_assoc]
  refine does_value fun _ ds a hf => ⟨.slice (some ⟨w.heap.size, 0, none⟩) (n + m) (grownCap w (n + m) c e), w.drew.alloc (.cells ((xs ++ rep m zero).toArray ++ Builtin.zeroCells zero.toArray (grownCap w (n + m) c e - (n + m))) e), by simp [execOp, resolve, invoke, builtin, hf.ev hx, hf.ev hy, hrr], ?_⟩
  · have hge := grownCap_ge w (n + m) c e
    have hzl : (Builtin.zeroCells zero.toArray (grownCap w (n + m) c e - (n + m))).size = (grownCap w (n + m) c e - (n + m)) * size := by
      rw [size_zeroCells]; simp [h6]
    have hal := (hs.drew).alloc (xs ++ rep m zero ++ (Builtin.zeroCells zero.toArray (grownCap w (n + m) c e - (n + m))).toList) e
    have hd : w.drew.heap.size = w.heap.size := rfl
    rw [hd] at hal
    have he : (xs ++ rep m zero ++ (Builtin.zeroCells zero.toArray (grownCap w (n + m) c e - (n + m))).toList).toArray = (xs ++ rep m zero).toArray ++ Builtin.zeroCells zero.toArray (grownCap w (n + m) c e - (n + m)) := by simp
    rw [he] at hal
    refine hal.sl_mk (c := grownCap w (n + m) c e) hge (by simp [hxl, hlen, Nat.add_mul]) ?_
    simp only [List.length_append, hxl, hlen, Array.length_toList, hzl, ← Nat.add_mul]
    congr 1; omega
def leftO (o : Oper) : Obs → Option Obs
  | [] => some []
  | x :: r => match leftO o r with
    | some l => bif waitsFor [x.1] o then some l else some (x :: l)
    | none => none
theorem leftO_eq (o : Oper) : ∀ obs : Obs, leftO o obs = some (left o obs)
  | [] => rfl
  | x :: r => by
    unfold leftO
    rw [leftO_eq o r]
    dsimp only []
    unfold left
    cases h : waitsFor [x.1] o
    · rw [List.filter_cons_of_pos (by rw [h]; rfl)]; rfl
    · rw [List.filter_cons_of_neg (by rw [h]; decide)]; rfl
theorem MC.doesL {X : Cx} {ds : List Deferred} {k : List It} {fr : Fr} {w : World} {ops : Array Oper} {obs : Obs} {R : List (Nat × Oper)} {i : Nat} {d : Option Tmp} {op : Op} {ty : TypeId} {pos : String} {aft : Array Edge} {Post : Value → World → Prop} {obs' : Obs} (f : Bool) (h : Does X.P X.r ⟨d, op, ty, pos, aft, none⟩ fr w Post) (hd : okD X.n d = true) (hwait : allWait i R = true) (hnd : noDefer ⟨d, op, ty, pos, aft, none⟩ = true)
    (hl : leftO ⟨d, op, ty, pos, aft, none⟩ obs = some obs')
    (hk : ∀ v w', Post v w' → Holds obs' w' ∧ MC X ds (.ops false ops obs' R :: k) (setD d f v fr) w') :
    MC X ds (.ops false ops obs ((i, ⟨d, op, ty, pos, aft, none⟩) :: R) :: k) fr w := fun a hf => by
  rw [leftO_eq] at hl
  cases hl
  refine .inr ⟨rfl, fun _ => ⟨.inl hwait, hnd⟩, fun Q' _ => h X.n ds a hf _ _ fun v w' hp => ?_⟩
  exact ⟨fun _ x hx => (hk v w' hp).1.all x hx, (hk v w' hp).2 _ (hf.setD hd f v)⟩
theorem run_loadB {w : World} : ∀ {ls : List UInt8} {b o : Nat} {acc : ByteArray}, (∀ (j : Nat) (u : Value), (bytesV ls)[j]? = some u → w.cell? ⟨b, o + j, none⟩ = some u) → (Extern.Bytes.loadBytes ⟨b, o, none⟩ ls.length acc).run P w = .ok ⟨acc.data ++ ls.toArray⟩ w
  | [], b, o, acc, _ => by simp [Extern.Bytes.loadBytes]
  | c :: ls, b, o, acc, h => by
    have h0 := h 0 (.int .u8 (c.toNat : Int)) rfl
    have ih := run_loadB (ls := ls) (b := b) (o := o + 1) (acc := acc.push c) fun j u hu => by
      have := h (j + 1) u hu
      rw [show o + (j + 1) = o + 1 + j by omega] at this
      exact this
    rw [Nat.add_zero] at h0
    simp only [List.length_cons, Extern.Bytes.loadBytes, Sem.run_bind, run_load, h0, Result.andThen]
    have e1 : ((c.toNat : Int).toNat).toUInt8 = c := by simp
    rw [e1, Addr.add_lit, ih]
    congr 2
    apply Array.ext'
    simp
theorem run_bytesOf {v : Value} {n : Nat} {ls : List UInt8} (hr : RdS F 1 v n (bytesV ls)) {w : World} (hs : Sat F w) : (Extern.Bytes.bytesOf v).run P w = .ok ⟨ls.toArray⟩ w := by
  obtain ⟨p, c, rfl, hc, hl, hp⟩ := hr
  have hn : ls.length = n := by simpa using hl
  subst hn
  cases p with
  | none =>
    have h0 : ls = [] := by
      cases ls with
      | nil => rfl
      | cons a ls => obtain ⟨b, o, h, _⟩ := hp (by simp); cases h
    subst h0
    simp [Extern.Bytes.bytesOf]
    rfl
  | some a =>
    by_cases h0 : 0 < ls.length * 1
    · obtain ⟨b, o, h, hrd⟩ := hp h0
      cases h
      have := run_loadB (P := P) (w := w) (ls := ls) (b := b) (o := o) (acc := .empty) (fun j u hu => hrd w hs j u hu)
      simp only [Extern.Bytes.bytesOf, this]
      congr 2
      simp
    · have : ls = [] := List.eq_nil_of_length_eq_zero (by omega)
      subst this
      simp [Extern.Bytes.bytesOf, Extern.Bytes.loadBytes]
      rfl
theorem run_cmp {v u : Value} {n m : Nat} {a b : List UInt8} (hr : RdS F 1 v n (bytesV a)) (hq : RdS F 1 u m (bytesV b)) {w : World} (hs : Sat F w) : (Extern.BytealgCompare.compare #[v, u]).run P w = .ok (.int .i64 (Lib.compareBytes a b)) w := by
  have h1 := run_bytesOf (P := P) hr hs
  have h2 := run_bytesOf (P := P) hq hs
  change Sem.run P (do pure (goInt (Extern.BytealgCompare.cmp (← Extern.Bytes.bytesOf v) (← Extern.Bytes.bytesOf u)))) w = _
  simp [h1, h2, Lib.cmp_eq, goInt]
end
section
variable {P : Program} {r : Option Nat} {fr : Fr} {d : Option Tmp} {ty : TypeId} {pos : String} {aft : Array Edge} {g : Option (Nat × Bool)} {v : Value} {x : Operand} {t e : TypeId} {w : World} {l : List Assn}
theorem does_buildObj {bytes : Nat} {zero : List Value} [hT : TyU P t (.slice e)] [hI : TyI P e false 1 bytes zero] {n : Nat} {ps : Array (Nat × Operand)} {vs : List Value} (hs : Sat l w) (hv : evs fr (ps.toList.map (·.2)) = some vs)
    (hp : ps.toList.map (·.1) = upto 0 vs.length) (hn : vs.length = n) (h1 : ∀ v ∈ vs, v.oneCell' = true) (hb : Nat.ble n 16777216 = true) :
    Does P r ⟨d, .buildSlice t n ps, ty, pos, aft, g⟩ fr w (fun v w' => ∃ b, v = .slice (some ⟨b, 0, none⟩) n n ∧ Sat (obj b (.cells vs.toArray e) :: l) w') := by
  obtain ⟨i, hi, h2, h3, h4, h5, h6, h7⟩ := hI.info
  have hz : (rep n zero).length = vs.length := by rw [rep_length, h6, hn, Nat.mul_one]
  refine does_value fun m ds a hf => ⟨_, w.alloc (.cells vs.toArray e), ?_, w.heap.size, rfl, hs.allocObj _⟩
  have e1 : (ps.map fun (i, x) => (i, a.eval x)).toList = (upto 0 vs.length).zip vs := by simpa using evps_map hf (evps_ones _ vs 0 hp hv)
  have hfill := fill_lay (fun i => some (i * 1, 1)) ((upto 0 vs.length).zip vs) (ones 0 vs) (rep n zero) vs (zip_ones vs 0 h1) (layOk_ones _ vs 0 (by rw [hz]; omega)) (lay_ones vs [] (rep n zero) hz)
  have hn' : ¬ (16777216 < n * 1) := by have : n ≤ 16777216 := by simpa using hb
                                        omega
  have hZ := zeros_eq n zero (by
    rcases Nat.eq_zero_or_pos zero.length with h0 | h0
    · left; simp [h0]
    · exact .inr h0)
  rw [h6] at hZ
  unfold madeCells at hZ
  simp only [execOp, Instr.buildSlice, Sem.run_bind, TyU.run (P := P) (t := t) w, Result.andThen_ok, TyI.run_size (P := P) (t := e) w, e1]
  rw [if_neg (by simpa using hn')]
  by_cases h0 : n * 1 = 0
  · have hr : rep n zero = [] := List.eq_nil_of_length_eq_zero (by rw [rep_length, h6]; exact h0)
    rw [hr] at hfill
    simp only [h0, if_true]
    simp only [Sem.run_pure, Sem.run_bind, Result.andThen_ok, Array.range_zero', Array.map_empty, hfill, newRow, newObj]
    rfl
  · simp only [h0, if_false]
    simp only [Sem.run_pure, Sem.run_bind, Result.andThen_ok, TyI.run_zero (P := P) (t := e) w, TyI.zero_cells P e, hZ, hfill, newRow, newObj]
    rfl
end
end Go.Sl

namespace Go.Proofs.YtkccjgllanpebaaGreatDoor
open Go Go.Sl
attribute [local irreducible] LooksAt
def lostN (kept : List Bool) (torn at' : Int) (i : Nat) : Nat := if (i : Int) = torn then (max 0 (min at' 256)).toNat else if kept.getD i false then 256 else 0
def lost (S : List (List UInt8)) (O : List (Nat × List UInt8)) (kept : List Bool) (torn at' : Int) : Nat → List (List UInt8)
  | 0 => S
  | i + 1 =>
    let T := lost S O kept torn at' i
    let x := O.getD i (0, [])
    T.set x.1 (x.2.take (lostN kept torn at' i) ++ (T.getD x.1 []).drop (lostN kept torn at' i))
def Dev.lose (D : Dev) (kept : List Bool) (torn at' : Int) : Dev := ⟨lost D.S D.O kept torn at' D.O.length, [], 0, 0⟩
theorem lostN_le (kept : List Bool) (torn at' : Int) (i : Nat) : lostN kept torn at' i ≤ 256 := by
  simp only [lostN]; split
  · omega
  · split <;> omega
theorem lost_length {S : List (List UInt8)} {O : List (Nat × List UInt8)} {kept : List Bool} {torn at' : Int} : ∀ i, (lost S O kept torn at' i).length = S.length
  | 0 => rfl
  | i + 1 => by simp only [lost, List.length_set]; exact lost_length i
theorem lost_sec {S : List (List UInt8)} {O : List (Nat × List UInt8)} {kept : List Bool} {torn at' : Int} (hS : ∀ s ∈ S, s.length = 256) (hO : ∀ x ∈ O, x.2.length = 256 ∧ x.1 < S.length) : ∀ i, i ≤ O.length → ∀ s ∈ lost S O kept torn at' i, s.length = 256
  | 0, _ => hS
  | i + 1, hi => fun s hs => by
    have ih := lost_sec (kept := kept) (torn := torn) (at' := at') hS hO i (by omega)
    simp only [lost] at hs
    rcases List.mem_or_eq_of_mem_set hs with h | rfl
    · exact ih s h
    · have hx := hO _ (List.getElem_mem (show i < O.length by omega))
      have hl := lost_length (S := S) (O := O) (kept := kept) (torn := torn) (at' := at') i
      have h2 : ((lost S O kept torn at' i).getD (O[i]'(by omega)).1 []).length = 256 := by
        rw [List.getD_eq_getElem?_getD, List.getElem?_eq_getElem (by omega)]
        exact ih _ (List.getElem_mem _)
      have := lostN_le kept torn at' i
      simp only [List.getD_eq_getElem?_getD, List.getElem?_eq_getElem (show i < O.length by omega), Option.getD_some] at h2 ⊢
      simp only [List.length_append, List.length_take, List.length_drop, hx.1, h2]
      omega
theorem Dev.lose_ok {D : Dev} (hD : D.ok) (kept : List Bool) (torn at' : Int) : (D.lose kept torn at').ok :=
  { pos := by simp only [Dev.lose, lost_length]; exact hD.pos
    few := by simp only [Dev.lose, lost_length]; exact hD.few
    sec := lost_sec hD.sec hD.op _ (Nat.le_refl _)
    op := fun x hx => by cases hx
    fuse0 := by simp [Dev.lose]
    fuse1 := by simp [Dev.lose] }
theorem Rd.cut {F : List Assn} {b o : Nat} {xs : List Value} (h : Rd F b o xs) (j m : Nat) : Rd F b (o + j) ((xs.drop j).take m) := fun w hs i u hu => by
  rw [List.getElem?_take] at hu
  split at hu
  · rw [List.getElem?_drop] at hu
    rw [Nat.add_assoc]
    exact h w hs _ u hu
  · cases hu
theorem RdS.nil (F : List Assn) (size : Nat) : RdS F size (.slice none 0 0) 0 [] := ⟨none, 0, rfl, Nat.le_refl _, by simp, fun h => by simp at h⟩
theorem bytesV_get {l : List UInt8} {j : Nat} {c : UInt8} (h : l[j]? = some c) : (bytesV l)[j]? = some (byte c) := by
  simp only [bytesV, List.getElem?_map, h]; rfl
end Go.Proofs.YtkccjgllanpebaaGreatDoor

set_option maxHeartbeats 1000000
namespace Go.Proofs.YtkccjgllanpebaaGreatDoor
open Go Go.Sl Go.Tr Go.Kv
attribute [local irreducible] LooksAt
def strsV (l : List Bs) : List Value := l.map str
theorem strsV_at {l : List Bs} {i : Nat} (h : i < l.length) : (strsV l)[((i : Nat) : Int).toNat * 1]? = some (str l[i]) := by
  rw [Int.toNat_natCast, Nat.mul_one]; simp [strsV, h]
def hugeN : Nat := 1000000000000000000
def I64 (x : Int) : Prop := -9223372036854775808 ≤ x ∧ x ≤ 9223372036854775807
structure Fit6 (k m e : Int) (t : Bs) (l : List V) (ks : List Bs) : Prop where
  ft : t.length ≤ hugeN
  fl : l.length ≤ hugeN
  fk : ks.length ≤ hugeN
  fs : ∀ x ∈ ks, x.length ≤ hugeN
  ik : I64 k
  im : I64 m
  ie : I64 e
inductive VR (F : List Assn) : V → List Value → Prop
  | mk {k m e : Int} {t : Bs} {l : List V} {ks : List Bs} {vl vk : Value} {rows : List (List Value)} (hl : RdS F 6 vl l.length rows.flatten) (hr : ∀ r ∈ rows, r.length = 6) (hn : rows.length = l.length)
      (hv : ∀ (i : Nat) v r, l[i]? = some v → rows[i]? = some r → VR F v r) (hk : RdS F 1 vk ks.length (strsV ks)) (hb : Fit6 k m e t l ks) : VR F ⟨k, m, e, t, l, ks⟩ [int k, int m, int e, str t, vl, vk]
theorem VR.up {F G : List Assn} [hs : Suf G F] {v : V} {r : List Value} (h : VR F v r) : VR G v r := by
  induction h with
  | mk hl hr hn hv hk hb ih => exact .mk hl.up hr hn ih hk.up hb
theorem VR.len {F : List Assn} {v : V} {r : List Value} (h : VR F v r) : r.length = 6 := by cases h; rfl
structure VL (F : List Assn) (l : List V) (rows : List (List Value)) : Prop where
  len : rows.length = l.length
  row : ∀ (i : Nat) v r, l[i]? = some v → rows[i]? = some r → VR F v r
theorem VL.six {F : List Assn} {l : List V} {rows : List (List Value)} (h : VL F l rows) : ∀ r ∈ rows, r.length = 6 := fun r hr => by
  obtain ⟨i, hi, rfl⟩ := List.mem_iff_getElem.1 hr
  have := h.len
  exact (h.row i l[i] rows[i] (List.getElem?_eq_getElem (by omega)) (List.getElem?_eq_getElem hi)).len
theorem VL.up {F G : List Assn} [hs : Suf G F] {l : List V} {rows : List (List Value)} (h : VL F l rows) : VL G l rows := ⟨h.len, fun i v r hv hr => (h.row i v r hv hr).up⟩
theorem flat_take {rows : List (List Value)} (h : ∀ r ∈ rows, r.length = 6) {i : Nat} (hi : i < rows.length) : (rows.flatten.drop (((i : Nat) : Int).toNat * 6)).take 6 = rows[i] := by
  have e : rows.flatten = rows.flatMap id := by simp
  rw [Int.toNat_natCast, e]
  exact rows_get (f := id) (c := 6) h hi
theorem VR.open_ {F : List Assn} {k m e : Int} {t : Bs} {l : List V} {ks : List Bs} {r : List Value} (h : VR F ⟨k, m, e, t, l, ks⟩ r) : ∃ (ql qk : Option Addr) (cl ck : Nat) (rows : List (List Value)),
    r = [int k, int m, int e, str t, .slice ql l.length cl, .slice qk ks.length ck] ∧ l.length ≤ cl ∧ ks.length ≤ ck ∧ RdS F 6 (.slice ql l.length cl) l.length rows.flatten ∧ VL F l rows ∧ RdS F 1 (.slice qk ks.length ck) ks.length (strsV ks) ∧ Fit6 k m e t l ks := by
  cases h with
  | mk hl hr hn hv hk hb =>
    obtain ⟨ql, cl, rfl, hcl, _⟩ := hl.shape
    obtain ⟨qk, ck, rfl, hck, _⟩ := hk.shape
    exact ⟨ql, qk, cl, ck, _, rfl, hcl, hck, hl, ⟨hn, hv⟩, hk, hb⟩
theorem V.ind {P : V → Prop} (h : ∀ k m e t l ks, (∀ v ∈ l, P v) → P (.mk k m e t l ks)) (v : V) : P v := by
  have : ∀ (n : Nat) (v : V), SizeOf.sizeOf v < n → P v := by
    intro n
    induction n with
    | zero => intro v hv; omega
    | succ n ih =>
      intro v hv
      obtain ⟨k, m, e, t, l, ks⟩ := v
      refine h k m e t l ks fun v hm => ih v ?_
      have := List.sizeOf_lt_of_mem hm
      simp at hv
      omega
  exact this _ v (Nat.lt_succ_self _)
mutual
def sizeV : V → Nat
  | .mk _ _ _ t l ks => 1 + t.length + (ks.map fun k => 1 + k.length).sum + sizeL l
def sizeL : List V → Nat
  | [] => 0
  | v :: l => sizeV v + sizeL l
end
theorem sizeL_snoc (v : V) : ∀ l : List V, sizeL (l ++ [v]) = sizeL l + sizeV v
  | [] => by simp [sizeL]
  | a :: l => by rw [List.cons_append, sizeL, sizeL_snoc v l, sizeL]; omega
section
variable {F : List Assn} {w : World}
theorem bulk_spec : ∀ (v : V) {F : List Assn} {w : World} {r : List Value} {most : Nat} (hs : Sat F w) (hv : VR F v r) (hm : most ≤ 1000),
    Ret Tryz.prog 5 [.agg r.toArray, int ((most : Nat) : Int)] w fun u w' => ∃ b : Nat, u = int ((b : Nat) : Int) ∧ b ≤ most + hugeN + 1 ∧ (b ≤ most → b = sizeV v) ∧ Sat F w' := by
  refine V.ind ?_
  intro k m e t l ks ih F w r most hs hv hm
  obtain ⟨ql, qk, cl, ck, rows, rfl, hcl, hck, hl, hvl, hk, ⟨hbt, hbl, hbk, hbs, -, -, -⟩⟩ := hv.open_
  unfold hugeN at *
  refine Ret.enter [(true, .agg #[int k, int m, int e, str t, .slice ql l.length cl, .slice qk ks.length ck]), (true, int ((most : Nat) : Int))] _ Tryz.func5 rfl Tryz.ntmps5 rfl ?_
  refine zz ?_
  refine MC.does true (does_box hs rfl rfl) rfl ?_; rintro _ w ⟨b2, rfl, hs⟩
  obtain ⟨K, hK⟩ : ∃ K : Nat → Nat, ∀ i, K i = ((ks.take i).map fun k => 1 + k.length).sum := ⟨_, fun _ => rfl⟩
  have hKs : ∀ i (h : i < ks.length), K (i + 1) = K i + (1 + ks[i].length) := fun i h => by
    rw [hK, hK, List.take_succ_eq_append_getElem h, List.map_append, List.sum_append]; simp
  have hK0 : K 0 = 0 := by rw [hK]; rfl
  have hsz : sizeV ⟨k, m, e, t, l, ks⟩ = 1 + t.length + K ks.length + sizeL l := by
    rw [hK, List.take_length, sizeV]
  rcases Nat.lt_or_ge most ks.length with hmk | hmk
  · refine zz ?_
    refine MC.ret rfl ?_
    refine ⟨most + 1, by push_cast; rfl, by omega, fun h => by omega, hs.tail⟩
  · refine zz ?_
    refine MC.cutAtS (σ := Nat) 2 (fun n => [(1, true, int ((most : Nat) : Int)), (2, true, ptr b2), (5, true, int ((n : Nat) : Int))])
      (fun n w => n ≤ most + 1000000000000000000 + 1 ∧ (n ≤ most → n = 1 + t.length + K ks.length) ∧ Sat (blk b2 [int k, int m, int e, str t, .slice ql l.length cl, .slice qk ks.length ck] 32 :: F) w) rfl ?_ ?_
    rotate_left
    · (try dsimp only [List.drop_succ_cons, List.drop_zero, List.take_succ_cons, List.take_zero, List.cons_append, List.nil_append])
      refine MC.loop (σ := Nat × Nat) (fun x => [(1, true, int ((most : Nat) : Int)), (2, true, ptr b2), (5, true, int ((x.2 : Nat) : Int)), (6, true, int ((x.1 : Nat) : Int))])
        (fun x w => x.1 ≤ ks.length ∧ x.2 = 1 + t.length + K x.1 ∧ x.2 ≤ most + 1000000000000000000 + 1 ∧ Sat (blk b2 [int k, int m, int e, str t, .slice ql l.length cl, .slice qk ks.length ck] 32 :: F) w) (fun x => ks.length - x.1) (0, 1 + t.length) zi ⟨Nat.zero_le _, by show 1 + t.length = 1 + t.length + K 0; rw [hK0]; rfl, by show 1 + t.length ≤ _; omega, hs⟩ ?_
      clear hs
      rintro ⟨i, n⟩ w ⟨hi, hn, hn2, hs⟩
      dsimp only [] at hi hn hn2 hs ⊢
      rcases Nat.lt_or_ge i ks.length with hlt | hge
      · rcases Nat.lt_or_ge most n with hmn | hmn
        · refine zz ?_
          exact MC.meetS n zi ⟨hn2, fun h => by omega, hs⟩
        · obtain ⟨bk, ok, rfl, hrk⟩ := hk.at_ (by omega)
          have hkl := hbs _ (List.getElem_mem hlt)
          refine zz ?_
          refine MC.la true (la_load1_rd hrk hs (j := ((i : Nat) : Int).toNat * 1) rfl (strsV_at hlt)) rfl ?_
          refine zz ?_
          exact MC.again (i + 1, n + 1 + ks[i].length) zi ⟨hlt, by show n + 1 + ks[i].length = _; rw [hKs i hlt]; omega, by show n + 1 + ks[i].length ≤ _; omega, hs⟩ (by show ks.length - (i + 1) < ks.length - i; omega)
      · obtain rfl : i = ks.length := by omega
        refine zz ?_
        exact MC.meetS n zi ⟨hn2, fun _ => hn, hs⟩
    · clear hs
      rintro n w ⟨hn2, hn, hs⟩
      dsimp only [List.drop] at hs ⊢
      refine zz ?_
      refine MC.cutAtS (σ := Nat) 2 (fun n => [(5, true, int ((n : Nat) : Int))])
        (fun n w => n ≤ most + 1000000000000000000 + 1 ∧ (n ≤ most → n = 1 + t.length + K ks.length + sizeL l) ∧ Sat F w) rfl ?_ ?_
      rotate_left
      · (try dsimp only [List.drop_succ_cons, List.drop_zero, List.take_succ_cons, List.take_zero, List.cons_append, List.nil_append])
        refine MC.loop (σ := Nat × Nat) (fun x => [(1, true, int ((most : Nat) : Int)), (2, true, ptr b2), (5, true, int ((x.2 : Nat) : Int)), (7, true, int ((x.1 : Nat) : Int))])
          (fun x w => x.1 ≤ l.length ∧ (x.2 ≤ most → x.2 = 1 + t.length + K ks.length + sizeL (l.take x.1)) ∧ x.2 ≤ most + 1000000000000000000 + 1 ∧ Sat (blk b2 [int k, int m, int e, str t, .slice ql l.length cl, .slice qk ks.length ck] 32 :: F) w) (fun x => l.length - x.1) (0, n) zi ⟨Nat.zero_le _, fun h => by show n = _ + sizeL []; rw [sizeL]; exact hn h, hn2, hs⟩ ?_
        clear hs hn hn2
        rintro ⟨i, n⟩ w ⟨hi, hn, hn2, hs⟩
        dsimp only [] at hi hn hn2 hs ⊢
        rcases Nat.lt_or_ge i l.length with hlt | hge
        · rcases Nat.lt_or_ge most n with hmn | hmn
          · refine zz ?_
            exact MC.meetS n zi ⟨hn2, fun h => by omega, hs.tail⟩
          · obtain ⟨bl, ol, rfl, hrl⟩ := hl.at_ (by omega)
            have hri : i < rows.length := by rw [hvl.len]; exact hlt
            obtain ⟨mo, hmo⟩ : ∃ mo, mo = most - n := ⟨_, rfl⟩
            have hih := ih l[i] (List.getElem_mem hlt) (most := mo) hs (hvl.row i l[i] rows[i] (List.getElem?_eq_getElem hlt) (List.getElem?_eq_getElem hri)).up (by omega)
            have hst : sizeL (l.take (i + 1)) = sizeL (l.take i) + sizeV l[i] := by rw [List.take_succ_eq_append_getElem hlt, sizeL_snoc]
            have hmi : ((most : Nat) : Int) - ((n : Nat) : Int) = ((mo : Nat) : Int) := by omega
            refine zz ?_
            refine MC.la true (la_loadV_rd hrl hs (j := ((i : Nat) : Int).toNat * 6) (vs := rows[i]) rfl (flat_take hvl.six hri) (hvl.six _ (List.getElem_mem hri)) rfl) rfl ?_
            refine zz ?_
            rw [hmi]
            refine zc rfl (hih) ?_
            rintro _ w ⟨b, rfl, hb1, hb2, hs⟩
            refine zz ?_
            exact MC.again (i + 1, n + b) zi ⟨hlt, fun h => by show n + b = _ + sizeL (l.take (i + 1)); rw [hst]; have := hb2 (by have : n + b ≤ most := h; omega); have := hn hmn; omega, by show n + b ≤ _; omega, hs⟩ (by show l.length - (i + 1) < l.length - i; omega)
        · obtain rfl : i = l.length := by omega
          refine zz ?_
          rw [List.take_length] at hn
          exact MC.meetS n zi ⟨hn2, hn, hs.tail⟩
      · clear hs hn hn2
        rintro n w ⟨hn2, hn, hs⟩
        dsimp only [List.drop] at hs ⊢
        refine zz ?_
        refine MC.ret rfl ?_
        exact ⟨n, rfl, hn2, fun h => by rw [hsz]; exact hn h, hs⟩
end
end Go.Proofs.YtkccjgllanpebaaGreatDoor

namespace Go.Proofs.YtkccjgllanpebaaGreatDoor
open Go Go.Sl
attribute [local irreducible] LooksAt
structure Frm where
  held : Bool
  sec : Int
  pins : Int
  late : Bool
  qa : Option Addr
  ln : Nat
  cp : Nat
  b : List UInt8
abbrev Frm.v (f : Frm) : Value := .slice f.qa f.ln f.cp
def Frm.row (f : Frm) : List Value := [bool f.held, int f.sec, int f.pins, bool f.late, .slice f.qa f.ln f.cp]
def frsV (fs : List Frm) : List Value := fs.flatMap Frm.row
theorem frsV_length (fs : List Frm) : (frsV fs).length = fs.length * 5 := rows_length fun _ _ => rfl
theorem frs_at {fs : List Frm} {i r : Nat} (h : i < fs.length) (hr : r < 5) : (frsV fs)[0 + ((i : Nat) : Int).toNat * 5 + r]? = (Frm.row fs[i])[r]? := by
  rw [Int.toNat_natCast, Nat.zero_add]
  exact rows_cell (f := Frm.row) (c := 5) (fun _ _ => rfl) h hr
theorem frs_set {fs : List Frm} {i r : Nat} {u : Value} {f' : Frm} (h : i < fs.length) (hr : (Frm.row fs[i]).set r u = Frm.row f') (hr5 : r < 5) : (frsV fs).set (i * 5 + r) u = frsV (fs.set i f') := by
  have hl := frsV_length fs
  apply List.ext_getElem?
  intro j
  have hl2 := frsV_length (fs.set i f')
  rw [List.length_set] at hl2
  rcases Nat.lt_or_ge j (fs.length * 5) with hj | hj
  · obtain ⟨a, c, rfl, ha, hc⟩ : ∃ a c, j = a * 5 + c ∧ a < fs.length ∧ c < 5 := ⟨j / 5, j % 5, by omega, by omega, by omega⟩
    have e2 : (frsV (fs.set i f'))[a * 5 + c]? = (Frm.row ((fs.set i f')[a]'(by simpa using ha)))[c]? := rows_cell (f := Frm.row) (c := 5) (fun _ _ => rfl) (by simpa using ha) hc
    have e1 : (frsV fs)[a * 5 + c]? = (Frm.row fs[a])[c]? := rows_cell (f := Frm.row) (c := 5) (fun _ _ => rfl) ha hc
    rw [e2, List.getElem?_set]
    by_cases hai : a = i
    · subst hai
      have e3 : (fs.set a f')[a]'(by simpa using ha) = f' := by simp
      rw [e3, ← hr, List.getElem?_set]
      by_cases hcr : c = r
      · subst hcr
        rw [if_pos rfl, if_pos rfl, if_pos (by rw [hl]; omega), if_pos (by show c < 5; exact hc)]
      · rw [if_neg (by omega), if_neg (by omega), e1]
    · have e3 : (fs.set i f')[a]'(by simpa using ha) = fs[a] := by rw [List.getElem_set_ne (by omega)]
      rw [e3, if_neg (by omega), e1]
  · rw [List.getElem?_eq_none (by rw [List.length_set]; omega), List.getElem?_eq_none (by omega)]
abbrev cblk (q pd bl n qc : Nat) (hand hits misses : Int) : Assn := blk q [ptr pd, .slice (some ⟨bl, 0, none⟩) n n, .chan (some qc), int hand, int hits, int misses] 157
abbrev fblk (bl : Nat) (fs : List Frm) : Assn := blk bl (frsV fs) 206
theorem cnone_spec {F : List Assn} {G : List Value → List Assn} {q pd : Nat} {cs : List Value} {w : World} (hs : Sat F w) [hA : At F q (ptr pd :: cs) 157 G] :
    Ret Tryz.prog 123 [ptr q] w fun v w' => v = bool false ∧ w' = w := by
  refine Ret.enter [(true, ptr q)] _ Tryz.func123 rfl Tryz.ntmps123 rfl ?_
  refine zz ?_
  refine MC.ret rfl ?_
  exact ⟨rfl, rfl⟩
theorem find_spec {F : List Assn} {G G2 : List Value → List Assn} {q pd bl qc n : Nat} {a b c : Value} {fs : List Frm} {w : World} (hs : Sat F w) [hA : At F q [ptr pd, .slice (some ⟨bl, 0, none⟩) n n, .chan (some qc), a, b, c] 157 G] [hB : At F bl (frsV fs) 206 G2] (hn : fs.length = n) (hn2 : n ≤ 64) (k : Int) :
    Ret Tryz.prog 153 [ptr q, int k] w fun v w' => w' = w ∧ ((∃ (i : Nat) (h : i < fs.length), fs[i].held = true ∧ fs[i].sec = k ∧ v = .tuple #[.pointer (some ⟨bl, i * 5, none⟩), int ((i : Nat) : Int)]) ∨ ((∀ f ∈ fs, f.held = true → f.sec ≠ k) ∧ v = .tuple #[.pointer none, int 0])) := by
  refine Ret.enter [(true, ptr q), (true, int k)] _ Tryz.func153 rfl Tryz.ntmps153 rfl ?_
  refine zz ?_
  refine MC.loop (σ := Nat) (fun i => [(0, true, ptr q), (1, true, int k), (11, true, int ((n : Nat) : Int)), (12, true, int ((i : Nat) : Int))]) (fun i w' => i ≤ n ∧ (∀ (j : Nat) (h : j < fs.length), j < i → fs[j].held = true → fs[j].sec ≠ k) ∧ w' = w) (fun i => n - i) 0 zi ⟨Nat.zero_le _, fun j _ h => by omega, rfl⟩ ?_
  rintro i w' ⟨hi, hno, rfl⟩
  rcases Nat.lt_or_ge i n with hlt | hge
  · have h0 := frs_at (fs := fs) (i := i) (r := 0) (by omega) (by decide)
    have h1 := frs_at (fs := fs) (i := i) (r := 1) (by omega) (by decide)
    have hno' := fun (hc : ¬ (fs[i]'(by omega)).held = true ∨ ¬ (fs[i]'(by omega)).sec = k) (j : Nat) (h : j < fs.length) (hj : j < i + 1) => show fs[j].held = true → fs[j].sec ≠ k from fun hh => by
      rcases Nat.lt_or_ge j i with h' | h'
      · exact hno j h h' hh
      · obtain rfl : j = i := by omega
        rcases hc with hc | hc
        · exact absurd hh hc
        · exact hc
    obtain ⟨f, hf⟩ : ∃ f, fs[i]'(by omega) = f := ⟨_, rfl⟩
    have hf' : fs[i]'(by omega) = f := hf
    obtain ⟨held, sec, pins, late, qa, ln, cp, bb⟩ := f
    rw [hf] at h0 h1 hno'
    dsimp only [] at hno'
    refine zz ?_
    refine MC.la false (la_load1 hs rfl h0) rfl ?_
    cases held
    · refine MC.go1 tab rfl rfl ?_
      refine MC.splitB (t := 23) (b := false) rfl (fun h => absurd h (by decide)) (fun _ => ?_)
      refine zz ?_
      exact MC.again (i + 1) zi ⟨hlt, hno' (.inl (by decide)), rfl⟩ (by omega)
    · refine MC.go1 tab rfl rfl ?_
      refine MC.splitB (t := 23) (b := true) rfl (fun _ => ?_) (fun h => absurd h (by decide))
      refine zz ?_
      refine MC.la true (la_load1 hs rfl h1) rfl ?_
      by_cases hk : sec = k
      · subst hk
        refine zz ?_
        refine MC.cond rfl (fun _ => ?_) (fun h => by exact absurd rfl h)
        refine zz ?_
        refine MC.ret rfl ?_
        refine ⟨rfl, .inl ⟨i, by omega, by rw [hf'], by rw [hf'], ?_⟩⟩
        rw [show (0 : Nat) + Int.toNat ((i : Nat) : Int) * 5 = i * 5 by rw [Int.toNat_natCast]; omega]
        rfl
      · refine zz ?_
        exact MC.again (i + 1) zi ⟨hlt, hno' (.inr hk), rfl⟩ (by omega)
  · obtain rfl : i = n := by omega
    refine zz ?_
    refine MC.ret rfl ?_
    refine ⟨rfl, .inr ⟨fun f hf => ?_, rfl⟩⟩
    obtain ⟨j, hj, rfl⟩ := List.mem_iff_getElem.1 hf
    exact hno j hj (by omega)
end Go.Proofs.YtkccjgllanpebaaGreatDoor
