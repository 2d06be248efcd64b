/-
  Values of interface types; noughts appended to what has no room; rows of slices with what they show. Nothing of a program stands here.
-/
import Derived.Test.YtoigogonccjagaaDoorSc
import Derived.Test.YtoigogonccjagaaDoorBp
set_option linter.unusedVariables false
set_option linter.unusedSimpArgs false
namespace Go.Sl
open Go
section
variable {P : Program} {r : Option Nat} {fr : Fr} {d : Option Tmp} {ty : TypeId} {pos : String} {aft : Array Edge} {g : Option (Nat × Bool)} {v vx : Value} {x y : Operand} {t e xt : TypeId} {w : World} {l F : List Assn}
theorem po_makeIface [hT : TyU P xt (.pointer e)] (hx : ev fr x = some v) : Pure P ⟨d, .makeInterface xt x, ty, pos, aft, g⟩ fr (.iface xt v) := fun n ds a hf w => by
  simp [execOp, hf.ev hx, Instr.makeInterface, TyU.run (P := P) (t := xt) w]
theorem run_equal_iface_nil {ms : Array (String × TypeId)} [h : TyU P t (.interface ms)] (w : World) : (Op.equal t .nilIface .nilIface).run P w = .ok true w := by
  unfold Op.equal Op.maxDepth Op.equalIn
  rw [Sem.run_bind, TyU.run (t := t) w]
  simp
theorem run_equal_iface_some {ms : Array (String × TypeId)} [h : TyU P t (.interface ms)] (w : World) : (Op.equal t (.iface xt vx) .nilIface).run P w = .ok false w := by
  unfold Op.equal Op.maxDepth Op.equalIn
  rw [Sem.run_bind, TyU.run (t := t) w]
  simp
theorem po_nnil_nil {ms : Array (String × TypeId)} {yt : TypeId} [hT : TyU P t (.interface ms)] (hx : ev fr x = some .nilIface) : Pure P ⟨d, .binOp .neq t x (.const .nilIface) yt, ty, pos, aft, g⟩ fr (.bool false) := fun n ds a hf w => by
  have h2 : a.eval (.const .nilIface) = .nilIface := rfl
  simp only [execOp, hf.ev hx, h2]
  simp [eqGuard, binOp, run_equal_iface_nil (P := P) (t := t) w]
theorem po_nnil_some {ms : Array (String × TypeId)} {yt : TypeId} [hT : TyU P t (.interface ms)] (hx : ev fr x = some (.iface xt vx)) : Pure P ⟨d, .binOp .neq t x (.const .nilIface) yt, ty, pos, aft, g⟩ fr (.bool true) := fun n ds a hf w => by
  have h2 : a.eval (.const .nilIface) = .nilIface := rfl
  simp only [execOp, hf.ev hx, h2]
  simp [eqGuard, binOp, run_equal_iface_some (P := P) (t := t) (xt := xt) (vx := vx) w]
/-- Noughts, none of them: the slice itself. -/
theorem does_append00 {agg : Bool} {size bytes : Nat} {zero : List Value} [hT : TyU P t (.slice e)] [hI : TyI P e agg size bytes zero] {tx : TypeId} {kd : IntKind} [hK : TyU P tx (.int kd)] {kv : IntKind} {n c : Nat} {m' : Int} {p : Option Addr} (hx : ev fr x = some (.slice p n c)) (hy : ev fr y = some (.int kv m')) (hm : m' = 0) (hnc : n ≤ c) :
    Does P r ⟨d, .call { callee := .builtin .append, args := #[x, y], argTypes := #[t, tx] }, ty, pos, aft, g⟩ fr w (fun v' w' => v' = .slice p n c ∧ w' = w) := by
  subst hm
  obtain ⟨i, hi, h2, h3, h4, h5, h6, h7⟩ := hI.info
  refine does_value fun _ ds a hf => ⟨_, _, ?_, rfl, rfl⟩
  have e0 : IntKind.i64.wrap 0 = 0 := wrap64 (by omega)
  simp [execOp, resolve, invoke, builtin, hf.ev hx, hf.ev hy, Builtin.append_, run_underlying hT.h, run_underlying hK.h, sizeOf, typeInfo, hi, asInt, asIntOf, e0, hnc]
  cases p <;> simp [storeCells]
/-- Noughts behind what has no room for them: a new row. -/
theorem does_append0F {agg : Bool} {size bytes : Nat} {zero : List Value} [hT : TyU P t (.slice e)] [hI : TyI P e agg size bytes zero] {tx : TypeId} {kd : IntKind} [hK : TyU P tx (.int kd)] {kv : IntKind} {n m : Nat} {m' : Int} {q : Option Addr} {xs : List Value} (hs : Sat l w) (hr : RdS F size (.slice q n n) n xs) [hF : Suf l F]
    (hx : ev fr x = some (.slice q n n)) (hy : ev fr y = some (.int kv m')) (h0 : 0 < size) (hm' : m' = (m : Int)) (hm1 : 0 < m) (hb : (n + m) * bytes ≤ 140737488355328) (hm : n + m ≤ 9223372036854775807) :
    Does P r ⟨d, .call { callee := .builtin .append, args := #[x, y], argTypes := #[t, tx] }, ty, pos, aft, g⟩ fr w (fun v' w' => Sat (sl v' e size (n + m) (xs ++ rep m zero) :: l) w') := by
  subst hm'
  obtain ⟨i, hi, h2, h3, h4, h5, h6, h7⟩ := hI.info
  have hzc := TyI.zero_cells P e (agg := agg) (zero := zero)
  have hzA : ∀ w' : World, (zeroValue e).run P w' = .ok (if agg then .agg zero.toArray else zero.headD undef) w' := fun w' => TyI.run_zero (P := P) (t := e) w'
  generalize (if agg then Value.agg zero.toArray else zero.headD undef) = z0 at hzc hzA
  have hw1 : IntKind.i64.wrap (m : Int) = m := wrap64 (by omega)
  have hneg : ¬ ((m : Int) < 0) := by omega
  have hbig : ¬ (281474976710656 < (m : Int) * (i.bytes : Int)) := by
    have h9 : m * bytes ≤ (n + m) * bytes := Nat.mul_le_mul_right _ (by omega)
    have : ((m * bytes : Nat) : Int) ≤ 140737488355328 := by omega
    rw [Int.natCast_mul] at this; rw [h3]; omega
  have hlen : (rep m zero).length = m * size := by rw [rep_length, h6]
  obtain ⟨p', c', e', hc', hxl, hp⟩ := hr
  injection e' with e1 e2 e3
  subst e1; subst e3
  have hold : (Builtin.firstCells i.size n (.slice q n n)).run P w.drew = .ok xs.toArray w.drew := by
    rcases Nat.eq_zero_or_pos (n * size) with hz | hz
    · have hn0 : n = 0 := by
        rcases Nat.mul_eq_zero.1 hz with h | h
        · exact h
        · omega
      subst hn0
      have : xs = [] := List.eq_nil_of_length_eq_zero (by simpa using hxl)
      subst this
      cases q with
      | none => exact run_firstCells_none w.drew i.size 0 0 0
      | some a =>
        rw [h2]
        exact run_firstCells_some w.drew size 0 a 0 0 [] (by simp) fun j x hj => by simp at hj
    · obtain ⟨b, o, rfl, hrd⟩ := hp hz
      rw [h2]
      refine run_firstCells_some w.drew size n ⟨b, o, none⟩ n n xs hxl fun j x hj => ?_
      rw [Addr.add_lit]
      exact hrd w (Suf.sat hs) j x hj
  have hn : ¬ (n + m ≤ n) := by omega
  have h63' : ¬ (9223372036854775807 < ((n : Int) + (m : Int))) := by omega
  have hfit := growslice_fits (need := n + m) (old := n) (bytes := i.bytes) (by omega) (by rw [h3]; exact hb)
  have h48' : ¬ (281474976710656 < Builtin.nextslicecap (n + m) n * i.bytes) := by omega
  have hm0 : ¬ m = 0 := by omega
  have hsz0 : ¬ i.size = 0 := by omega
  have hz' : ¬ m * i.size = 0 := by
    intro h
    rcases Nat.mul_eq_zero.1 h with h | h <;> omega
  have hrr : (Builtin.append_ #[t, tx] ty #[.slice q n n, .int kv (m : Int)]).run P w =
    .ok (.slice (some ⟨w.heap.size, 0, none⟩) (n + m) (grownCap w (n + m) n e))
      (w.drew.alloc (.cells ((xs ++ rep m zero).toArray ++ Builtin.zeroCells zero.toArray (grownCap w (n + m) n e - (n + m))) e)) := by
    simp [Builtin.append_, run_underlying hT.h, run_underlying hK.h, sizeOf, typeInfo, hi, asInt, asIntOf, hw1, hneg, hbig, hn, h63', h48', hz', hm0, hsz0, Question.forced, hold, hzA, hzc, newRow, grownCap]
    congr 2
    apply Array.ext'
    simp [rep_zeroCells zero m (by omega), List.append_assoc]
  refine does_value fun _ ds a hf => ⟨.slice (some ⟨w.heap.size, 0, none⟩) (n + m) (grownCap w (n + m) n e), w.drew.alloc (.cells ((xs ++ rep m zero).toArray ++ Builtin.zeroCells zero.toArray (grownCap w (n + m) n e - (n + m))) e), by simp [execOp, resolve, invoke, builtin, hf.ev hx, hf.ev hy, hrr], ?_⟩
  · have hge := grownCap_ge w (n + m) n e
    have hzl : (Builtin.zeroCells zero.toArray (grownCap w (n + m) n e - (n + m))).size = (grownCap w (n + m) n e - (n + m)) * size := by
      rw [size_zeroCells]; simp [h6]
    have hal := (hs.drew).alloc (xs ++ rep m zero ++ (Builtin.zeroCells zero.toArray (grownCap w (n + m) n e - (n + m))).toList) e
    have hd : w.drew.heap.size = w.heap.size := rfl
    rw [hd] at hal
    have he : (xs ++ rep m zero ++ (Builtin.zeroCells zero.toArray (grownCap w (n + m) n e - (n + m))).toList).toArray = (xs ++ rep m zero).toArray ++ Builtin.zeroCells zero.toArray (grownCap w (n + m) n e - (n + m)) := by simp
    rw [he] at hal
    refine hal.sl_mk (c := grownCap w (n + m) n e) hge (by simp [hxl, hlen, Nat.add_mul]) ?_
    simp only [List.length_append, hxl, hlen, Array.length_toList, hzl, ← Nat.add_mul]
    congr 1; omega
end

/-! ### Parts of what reads -/
theorem RdS.takeL {F : List Assn} {size n c b : Nat} {p : Option Addr} {xs : List Value} (h : RdS F size (.slice p n c) n xs) (hb : b ≤ n) : RdS F size (.slice p b c) b (xs.take (b * size)) := by
  obtain ⟨p', c', e, hc, hl, hp⟩ := h
  injection e with e1 e2 e3
  subst e1; subst e3
  have hm : b * size ≤ n * size := Nat.mul_le_mul_right _ hb
  refine ⟨p, c, rfl, by omega, by rw [List.length_take]; omega, fun h0 => ?_⟩
  obtain ⟨q, o, rfl, hr⟩ := hp (by omega)
  refine ⟨q, o, rfl, fun w hw j u hu => hr w hw j u ?_⟩
  rw [List.getElem?_take] at hu
  split at hu
  · exact hu
  · cases hu
theorem RdS.dropL {F : List Assn} {size n c a : Nat} {p : Option Addr} {xs : List Value} (h : RdS F size (.slice p n c) n xs) (ha : a ≤ n) : RdS F size (.slice (cutAt p a c size) (n - a) (c - a)) (n - a) (xs.drop (a * size)) := by
  obtain ⟨p', c', e, hc, hl, hp⟩ := h
  injection e with e1 e2 e3
  subst e1; subst e3
  refine ⟨_, _, rfl, by omega, by rw [List.length_drop, hl, Nat.sub_mul], fun h0 => ?_⟩
  have hna : 0 < n - a := by
    rcases Nat.eq_zero_or_pos (n - a) with h | h
    · rw [h, Nat.zero_mul] at h0; omega
    · exact h
  have hsz : 0 < size := by
    rcases Nat.eq_zero_or_pos size with h | h
    · rw [h, Nat.mul_zero] at h0; omega
    · exact h
  obtain ⟨q, o, rfl, hr⟩ := hp (Nat.mul_pos (by omega) hsz)
  refine ⟨q, o + a * size, ?_, fun w hw j u hu => ?_⟩
  · unfold cutAt
    rw [if_neg (by omega)]
    simp [Addr.add]
  · rw [List.getElem?_drop] at hu
    have := hr w hw _ u hu
    rw [← Nat.add_assoc] at this
    exact this
theorem RdS.cap {F : List Assn} {size n c c' : Nat} {p : Option Addr} {xs : List Value} (h : RdS F size (.slice p n c) n xs) (hc : n ≤ c') : RdS F size (.slice p n c') n xs := by
  obtain ⟨p', c2, e, _, hl, hp⟩ := h
  injection e with e1 e2 e3
  subst e1
  exact ⟨p, c', rfl, hc, hl, hp⟩
/-- A part of bytes. -/
theorem RdS.sub {F : List Assn} {n c a b : Nat} {p : Option Addr} {l : List UInt8} (h : RdS F 1 (.slice p n c) n (bytesV l)) (hab : a ≤ b) (hb : b ≤ n) (c' : Nat) (hc : b - a ≤ c') : RdS F 1 (.slice (cutAt p a c 1) (b - a) c') (b - a) (bytesV ((l.take b).drop a)) := by
  have h1 := (h.takeL (b := b) hb)
  have h2 := (h1.dropL (a := a) hab).cap hc
  rw [Nat.mul_one, Nat.mul_one] at h2
  have e : ((bytesV l).take b).drop a = bytesV ((l.take b).drop a) := by simp [bytesV, List.map_take, List.map_drop]
  rw [e] at h2
  exact h2
/-- Cut by three indices: the address is told by the third. -/
theorem RdS.sub3 {F : List Assn} {n c a b m : Nat} {p : Option Addr} {l : List UInt8} (h : RdS F 1 (.slice p n c) n (bytesV l)) (hab : a ≤ b) (hb : b ≤ n) (hbm : b ≤ m) : RdS F 1 (.slice (cutAt p a m 1) (b - a) (m - a)) (b - a) (bytesV ((l.take b).drop a)) := by
  have h1 := h.sub (a := a) (b := b) hab hb (m - a) (by omega)
  obtain ⟨_, _, e, hc, hl, hp⟩ := h1
  obtain ⟨_, _, e0, hnc, _, _⟩ := h
  injection e0 with _ _ e3
  injection e with e1 e2 e4
  refine ⟨_, _, rfl, by omega, hl, fun h0 => ?_⟩
  have hlt : a < b := by
    rcases Nat.lt_or_ge a b with h | h
    · exact h
    · have : b - a = 0 := by omega
      rw [this, Nat.zero_mul] at h0; omega
  obtain ⟨q, o, hq, hr⟩ := hp h0
  refine ⟨q, o, ?_, hr⟩
  rw [← hq, ← e1]
  unfold cutAt
  rw [if_neg (by omega), if_neg (by omega)]
theorem RdS.subHi {F : List Assn} {n c b : Nat} {p : Option Addr} {l : List UInt8} (h : RdS F 1 (.slice p n c) n (bytesV l)) (hb : b ≤ n) : RdS F 1 (.slice p b c) b (bytesV (l.take b)) := by
  have h1 := (h.takeL (b := b) hb)
  rw [Nat.mul_one] at h1
  have e : (bytesV l).take b = bytesV (l.take b) := by simp [bytesV, List.map_take]
  rw [e] at h1
  exact h1
theorem RdS.subLo {F : List Assn} {n c a : Nat} {p : Option Addr} {l : List UInt8} (h : RdS F 1 (.slice p n c) n (bytesV l)) (ha : a ≤ n) : RdS F 1 (.slice (cutAt p a c 1) (n - a) (c - a)) (n - a) (bytesV (l.drop a)) := by
  have h1 := (h.dropL (a := a) ha)
  rw [Nat.mul_one] at h1
  have e : (bytesV l).drop a = bytesV (l.drop a) := by simp [bytesV, List.map_drop]
  rw [e] at h1
  exact h1

/-! ### Many slices of bytes -/
/-- What slices show: each is the call's own. -/
def bods (t : TypeId) (l : List (Value × List UInt8)) : Assn := star (l.map fun x => sl x.1 t 1 x.2.length (bytesV x.2))
section
variable {F : List Assn} {w : World} {t : TypeId} {l m : List (Value × List UInt8)}
theorem bods_app (h : Sat (bods t l :: bods t m :: F) w) : Sat (bods t (l ++ m) :: F) w := by
  have h1 := h.unstar
  have h2 : Sat (bods t m :: (l.map (fun x => sl x.1 t 1 x.2.length (bytesV x.2)) ++ F)) w := by
    have h3 := h1.pull (l.map (fun x => sl x.1 t 1 x.2.length (bytesV x.2))).length (A := bods t m) (by simp)
    have e : (l.map (fun x => sl x.1 t 1 x.2.length (bytesV x.2)) ++ bods t m :: F).eraseIdx (l.map (fun x => sl x.1 t 1 x.2.length (bytesV x.2))).length = l.map (fun x => sl x.1 t 1 x.2.length (bytesV x.2)) ++ F := by
      rw [List.eraseIdx_append_of_length_le (Nat.le_refl _)]; simp
    rw [e] at h3; exact h3
  have h4 : Sat (bods t l :: bods t m :: F) w := h
  -- the parts of l, then those of m
  have h5 : Sat (l.map (fun x => sl x.1 t 1 x.2.length (bytesV x.2)) ++ (m.map (fun x => sl x.1 t 1 x.2.length (bytesV x.2)) ++ F)) w := by
    have g : All (at_ (envOf w) (l.map (fun x => sl x.1 t 1 x.2.length (bytesV x.2))) ++ at_ (envOf w) (bods t m :: F)) (hpOf w) := by
      rw [at_, at_, ← List.map_append]; exact h1
    obtain ⟨a1, a2, ap, l1, l2, ha, hb⟩ := All.append_iff.1 g
    have hb2 : All (at_ (envOf w) (m.map (fun x => sl x.1 t 1 x.2.length (bytesV x.2))) ++ at_ (envOf w) F) a2 := All.append_iff.2 hb
    have := All.append_iff.2 ⟨a1, a2, ap, l1, l2, ha, hb2⟩
    rw [at_, at_, at_, ← List.map_append, ← List.map_append] at this
    exact this
  rw [← List.append_assoc, ← List.map_append] at h5
  exact Sat.restar h5
theorem bods_nil (h : Sat F w) : Sat (bods t [] :: F) w := Sat.restar (l := []) h
theorem bods_one {v : Value} {b : List UInt8} (h : Sat (sl v t 1 b.length (bytesV b) :: F) w) : Sat (bods t [(v, b)] :: F) w := Sat.restar (l := [_]) h
theorem bods_snoc {v : Value} {b : List UInt8} (h : Sat (sl v t 1 b.length (bytesV b) :: bods t l :: F) w) : Sat (bods t (l ++ [(v, b)]) :: F) w := bods_app (bods_one h).swap
/-- Each of them reads. -/
theorem bods_rd (h : Sat (bods t l :: F) w) {x : Value × List UInt8} (hx : x ∈ l) : RdS (bods t l :: F) 1 x.1 x.2.length (bytesV x.2) := by
  obtain ⟨i, hi, rfl⟩ := List.mem_iff_getElem.1 hx
  have hp : ∀ w, Sat (bods t l :: F) w → ∃ rest, Sat (sl l[i].1 t 1 l[i].2.length (bytesV l[i].2) :: rest) w := fun w h => ⟨_, h.unstar.pull i (by rw [List.getElem?_append_left (by simpa using hi)]; simp [hi])⟩
  obtain ⟨rest, h1⟩ := hp w h
  obtain ⟨p, c, he, hc, hl, hr⟩ := RdS.of_sl h1
  refine ⟨p, c, he, hc, hl, fun h0 => ?_⟩
  obtain ⟨b, o, hpb, _⟩ := hr h0
  refine ⟨b, o, hpb, fun w' hw' j u hu => ?_⟩
  obtain ⟨rest', h2⟩ := hp w' hw'
  obtain ⟨p2, c2, he2, _, _, hr2⟩ := RdS.of_sl h2
  rw [he] at he2
  injection he2 with e1 e2 e3
  obtain ⟨b2, o2, hpb2, hrd⟩ := hr2 h0
  rw [← e1, hpb] at hpb2
  injection hpb2 with e4
  injection e4 with e5 e6
  subst e5; subst e6
  exact hrd w' h2 j u hu
end
end Go.Sl
