/-
  Channels in one goroutine: a send with room, a receive with a default, at the end and at the head of a region | Maps from int: entries in the order in which they came; calls of functions without a body
-/
import Derived.Test.YtjlofdodiaklaaaGreatYae
import Derived.Conc.LoneSelect
import Derived.Laws.Externs
set_option linter.unusedVariables false
set_option linter.unusedSimpArgs false
namespace Go.Sl
open Go Go.Conc

theorem room_wd {r : Option Nat} (n : Nat) : (Wd r).room n := fun _ h => by simp [Wd] at h
def Reach (P : Program) (r : Option Nat) (ops : Array Oper) (l : List Nat) (Q : Exit → Act → World → Prop) (a : Act) (w : World) : Prop :=
  ∀ (b : Frame) (k : List Item) (cs : List Frame), b.roundOf = r → ∃ e a' w', Q e a' w' ∧ ArrivesIn (Machine.fenced P (Wd r)) P (lone (b.atR a (.inRegion ops l :: k)) cs w) b k cs e a' w'
section
variable {P : Program} {r : Option Nat} {ops : Array Oper} {l : List Nat} {Q : Exit → Act → World → Prop} {a : Act} {w w' : World} {i : Nat} {o : Oper} {v z : Value} {c x : Operand} {q cap sn rn : Nat} {buf : Array Value} {tm closed : Bool}
theorem Reach.end_ (h : Q .normal a w) : Reach P r ops [] Q a w := fun b k cs hro => ⟨.normal, a, w, h, .one (fenced_calm (n := 0) trivial (room_wd _) rfl) stepR_region_end⟩
theorem Reach.step {b : Frame} {k : List Item} {cs : List Frame} (ho : ops[i]? = some o) {a' : Act} (hs : step P (lone (b.atR a (.inRegion ops (i :: l) :: k)) cs w) = .next (lone (b.atR a' (.inRegion ops l :: k)) cs w'))
    (h : ∃ e a'' w'', Q e a'' w'' ∧ ArrivesIn (Machine.fenced P (Wd r)) P (lone (b.atR a' (.inRegion ops l :: k)) cs w') b k cs e a'' w'') :
    ∃ e a'' w'', Q e a'' w'' ∧ ArrivesIn (Machine.fenced P (Wd r)) P (lone (b.atR a (.inRegion ops (i :: l) :: k)) cs w) b k cs e a'' w'' := by
  obtain ⟨e, a'', w'', hq, harr⟩ := h
  exact ⟨e, a'', w'', hq, .of_steps (.one (fenced_oper (n := 0) trivial (room_wd _) ho fun _ _ => trivial) hs) harr⟩
theorem Reach.value (ho : ops[i]? = some o) (hg : o.guard = none) (hd : ∀ c, o.op ≠ .defer c) (he : (execOp a.eval o).run P w = .ok (.value v) w') (h : Reach P r ops l Q (a.put o.dst v) w') : Reach P r ops (i :: l) Q a w := fun b k cs hro => by
  refine Reach.step ho (step_lone_go ?_) (h b k cs hro)
  have hfin := Frame.finish_atR b a ops i l k v
  rw [ho, Option.bind_some] at hfin
  rw [stepGR_op ho (by simp [Region.wanted, hg]), show o.semAt b.roundOf a.eval = execOp a.eval o from Oper.semAt_eq _ _ _ hd, ← hfin]
  simp [stepG.apply, he]
theorem Reach.send (ho : ops[i]? = some o) (hop : o.op = .send c x) (hg : o.guard = none) (hc : a.eval c = .chan (some q)) (hx : a.eval x = v) (hq : w.heap[q]? = some (.chan cap buf false sn rn tm)) (hroom : buf.size < cap)
    (h : Reach P r ops l Q (a.put o.dst undef) (w.setChan q cap (buf.push v) false (sn + 1) rn tm)) : Reach P r ops (i :: l) Q a w := fun b k cs hro => by
  refine Reach.step ho ?_ (h b k cs hro)
  have hfin := Frame.finish_atR b a ops i l k undef
  rw [ho, Option.bind_some] at hfin
  have hd : ∀ d, o.op ≠ .defer d := by intro d e; rw [hop] at e; cases e
  have hg' := stepGR_op (P := P) (b := b) (a := a) (k := k) (cs := cs) (w := w) (rest := l) ho (by simp [Region.wanted, hg])
  rw [show o.semAt b.roundOf a.eval = execOp a.eval o from Oper.semAt_eq _ _ _ hd] at hg'
  have he : execOp a.eval o = pure (.comm #[scase q v (.tuple #[])] true .send) := by
    unfold execOp; rw [hop]; simp only [hc, hx]; rfl
  rw [he] at hg'
  have hs : ∃ es, stepG P true (Conc.G (b.atR a (.inRegion ops (i :: l) :: k)) cs) w = .comm (Conc.G (b.atR a (.inRegion ops (i :: l) :: k)) cs) #[scase q v (.tuple #[])] true .send w es := by
    unfold Conc.G; rw [hg']; simp [stepG.apply, GStep.after]
  obtain ⟨es, hs⟩ := hs
  have := step_lone_send_room hs hq hroom
  rw [hfin] at this
  exact this
theorem Reach.recv_buf {ss : Array SelectCase} {z' : Value} (ho : ops[i]? = some o) (hg : o.guard = none) (hd : ∀ d, o.op ≠ .defer d) (he : (execOp a.eval o).run P w = .ok (.comm #[rcase q z] false .select) w) (hq : w.heap[q]? = some (.chan cap buf closed sn rn tm)) (hsome : 0 < buf.size)
    (h : Reach P r ops l Q (a.put o.dst (.tuple #[goInt 0, .bool true, buf.getD 0 undef])) (w.setChan q cap (buf.extract 1 buf.size) closed sn (rn + 1) tm)) : Reach P r ops (i :: l) Q a w := fun b k cs hro => by
  refine Reach.step ho ?_ (h b k cs hro)
  have hfin := Frame.finish_atR b a ops i l k (.tuple #[goInt 0, .bool true, buf.getD 0 undef])
  rw [ho, Option.bind_some] at hfin
  have hg' := stepGR_op (P := P) (b := b) (a := a) (k := k) (cs := cs) (w := w) (rest := l) ho (by simp [Region.wanted, hg])
  rw [show o.semAt b.roundOf a.eval = execOp a.eval o from Oper.semAt_eq _ _ _ hd] at hg'
  have hs : ∃ es, stepG P true (Conc.G (b.atR a (.inRegion ops (i :: l) :: k)) cs) w = .comm (Conc.G (b.atR a (.inRegion ops (i :: l) :: k)) cs) #[rcase q z] false .select w es := by
    unfold Conc.G; rw [hg']; simp [stepG.apply, he, GStep.after]
  obtain ⟨es, hs⟩ := hs
  have := step_lone_select_recv_buf hs hq hsome
  rw [hfin] at this
  exact this
theorem Reach.recv_none (ho : ops[i]? = some o) (hg : o.guard = none) (hd : ∀ d, o.op ≠ .defer d) (he : (execOp a.eval o).run P w = .ok (.comm #[rcase q z] false .select) w) (hq : w.heap[q]? = some (.chan cap #[] false sn rn tm))
    (h : Reach P r ops l Q (a.put o.dst (.tuple #[goInt (-1), .bool false, z])) w) : Reach P r ops (i :: l) Q a w := fun b k cs hro => by
  refine Reach.step ho ?_ (h b k cs hro)
  have hfin := Frame.finish_atR b a ops i l k (.tuple #[goInt (-1), .bool false, z])
  rw [ho, Option.bind_some] at hfin
  have hg' := stepGR_op (P := P) (b := b) (a := a) (k := k) (cs := cs) (w := w) (rest := l) ho (by simp [Region.wanted, hg])
  rw [show o.semAt b.roundOf a.eval = execOp a.eval o from Oper.semAt_eq _ _ _ hd] at hg'
  have hs : ∃ es, stepG P true (Conc.G (b.atR a (.inRegion ops (i :: l) :: k)) cs) w = .comm (Conc.G (b.atR a (.inRegion ops (i :: l) :: k)) cs) #[rcase q z] false .select w es := by
    unfold Conc.G; rw [hg']; simp [stepG.apply, he, GStep.after]
  obtain ⟨es, hs⟩ := hs
  have := step_lone_select_default hs hq
  rw [hfin] at this
  exact this
theorem wpIn_of_reach {id : Nat} (h : Reach P r ops (List.range ops.size) Q a w) : (Code.region id ops false).wpIn (Wd r) 0 P Q a w := fun b k cs hro hb hr => by
  obtain ⟨e, a', w', hq, harr⟩ := h b k cs hro
  exact ⟨e, a', w', hq, .of_steps (.one (fenced_calm hb hr rfl) stepR_region) harr⟩
end

section
variable {X : Cx} {ds : List Deferred} {k : List It} {fr : Fr} {w : World} {id : Nat} {l : List Assn} {q cap sn rn : Nat} {buf : List Value} {v : Value}
theorem Sat.setChan {o : Obj} (h : Sat (obj q o :: l) w) (cap : Nat) (buf : Array Value) (cl : Bool) (sn rn : Nat) : Sat (obj q (.chan cap buf cl sn rn false) :: l) (w.setChan q cap buf cl sn rn false) := h.putObj
theorem MC.sendField {d0 d1 d2 d3 d4 : Tmp} {x y : Operand} {s tc ty0 ty1 ty2 ty3 ty4 ty5 : TypeId} {p0 p1 p2 p3 p4 p5 : String} {f0 f1 f2 f3 f4 f5 : Array Edge} {f off b o bytes : Nat} {ft e : TypeId} {cs zero : List Value} {G : List Value → List Assn}
    [hF : TyF X.P s f off ft] [hI : TyI X.P tc false 1 bytes zero] [hA : At l b cs e G] (hs : Sat (obj q (.chan cap buf.toArray false sn rn false) :: l) w) (hx : ev fr x = some (.pointer (some ⟨b, o, none⟩))) (hc : cs[o + off]? = some (.chan (some q))) (hroom : buf.length < cap)
    (hn : (Nat.blt d0 X.n && Nat.blt d1 X.n && Nat.blt d2 X.n && Nat.blt d3 X.n && Nat.blt d4 X.n) = true)
    (hy : ev ((d3, true, .chan (some q)) :: (d2, true, .pointer (some ⟨b, o + off, none⟩)) :: (d1, true, .pointer (some ⟨b, o, none⟩)) :: (d0, true, .pointer (some ⟨b, o, none⟩)) :: fr) y = some v)
    (hsep : Nat.beq d3 d4 = false)
    (h : ∀ w', Sat (obj q (.chan cap (buf ++ [v]).toArray false (sn + 1) rn false) :: l) w' → MC X ds k ((d4, true, v) :: (d3, true, .chan (some q)) :: (d2, true, .pointer (some ⟨b, o + off, none⟩)) :: (d1, true, .pointer (some ⟨b, o, none⟩)) :: (d0, true, .pointer (some ⟨b, o, none⟩)) :: fr) w') :
    MC X ds (.code (.region id #[⟨some d0, .move x, ty0, p0, f0, none⟩, ⟨some d1, .nilCheck (.tmp d0), ty1, p1, f1, none⟩, ⟨some d2, .fieldAddr s (.tmp d1) f, ty2, p2, f2, none⟩, ⟨some d3, .load tc (.tmp d2), ty3, p3, f3, none⟩, ⟨some d4, .move y, ty4, p4, f4, none⟩, ⟨none, .send (.tmp d3) (.tmp d4), ty5, p5, f5, none⟩] false) :: k) fr w := fun a hf => by
  simp only [Bool.and_eq_true] at hn
  obtain ⟨⟨⟨⟨n0, n1⟩, n2⟩, n3⟩, n4⟩ := hn
  have lkh : ∀ (t : Nat) (g : Bool) (u : Value) (fr : Fr), ev ((t, g, u) :: fr) (.tmp t) = some u := fun t g u fr => by simp [ev, lk]
  have g0 := hf.put n0 true (.pointer (some ⟨b, o, none⟩))
  have g1 := g0.put n1 true (.pointer (some ⟨b, o, none⟩))
  have g2 := g1.put n2 true (.pointer (some ⟨b, o + off, none⟩))
  have g3 := g2.put n3 true (.chan (some q))
  have g4 := g3.put n4 true v
  have e0 := po_move (P := X.P) (d := some d0) (ty := ty0) (pos := p0) (aft := f0) (g := none) hx _ _ _ hf w
  have e1 := po_nilCheck (P := X.P) (d := some d1) (ty := ty1) (pos := p1) (aft := f1) (g := none) (lkh d0 true _ fr) _ _ _ g0 w
  have e2 := po_fieldAddr (P := X.P) (s := s) (f := f) (d := some d2) (ty := ty2) (pos := p2) (aft := f2) (g := none) (lkh d1 true _ _) _ _ _ g1 w
  have e3 := (la_load1 (P := X.P) (hA := hA) (d := some d3) (t := tc) (ty := ty3) (pos := p3) (aft := f3) (g := none) hs.tail (lkh d2 true _ ((d1, true, .pointer (some ⟨b, o, none⟩)) :: (d0, true, .pointer (some ⟨b, o, none⟩)) :: fr)) hc)
  have e3 := e3.1 _ _ _ g2 w e3.2
  have e4 := po_move (P := X.P) (d := some d4) (ty := ty4) (pos := p4) (aft := f4) (g := none) hy _ _ _ g3 w
  refine wpIn_of_reach ?_
  refine Reach.value (i := 0) rfl rfl (by intro c e; cases e) e0 ?_
  refine Reach.value (i := 1) rfl rfl (by intro c e; cases e) e1 ?_
  refine Reach.value (i := 2) rfl rfl (by intro c e; cases e) e2 ?_
  refine Reach.value (i := 3) rfl rfl (by intro c e; cases e) e3 ?_
  refine Reach.value (i := 4) rfl rfl (by intro c e; cases e) e4 ?_
  have h3 : ev ((d4, true, v) :: (d3, true, .chan (some q)) :: (d2, true, .pointer (some ⟨b, o + off, none⟩)) :: (d1, true, .pointer (some ⟨b, o, none⟩)) :: (d0, true, .pointer (some ⟨b, o, none⟩)) :: fr) (.tmp d3) = some (.chan (some q)) := by
    have : Nat.beq d4 d3 = false := by rw [Bool.eq_false_iff] at hsep ⊢; intro hh; exact hsep (by have := Nat.eq_of_beq_eq_true hh; subst this; simp)
    simp only [ev, lk, this, cond_false]; simp
  refine Reach.send (i := 5) rfl rfl rfl (g4.ev h3) (g4.ev (lkh d4 true _ _)) hs.obj_heap (by simpa using hroom) ?_
  refine Reach.end_ ?_
  have := hs.setChan cap (buf.toArray.push v) false (sn + 1) rn
  rw [List.push_toArray] at this
  exact h _ (by rw [List.push_toArray]; exact this) _ (g4.put_none undef)
theorem MC.selectRecv {d0 d1 d2 : Tmp} {y : Operand} {el t1 t2 : TypeId} {ty0 ty1 ty2 : TypeId} {p0 p1 p2 : String} {f0 f1 f2 : Array Edge} {agg : Bool} {size bytes : Nat} {zero : List Value} [hI : TyI X.P el agg size bytes zero] {cs : SelectCase} (hcs : cs.chan = y ∧ cs.send = none ∧ cs.elem = el)
    (hs : Sat (obj q (.chan cap buf.toArray false sn rn false) :: l) w) (hy : ev fr y = some (.chan (some q)))
    (hn : (Nat.blt d0 X.n && Nat.blt d1 X.n && Nat.blt d2 X.n) = true)
    (h1 : ∀ v0 buf', buf = v0 :: buf' → ∀ w', Sat (obj q (.chan cap buf'.toArray false sn (rn + 1) false) :: l) w' → MC X ds k ((d2, true, .bool true) :: (d1, true, .int .i64 0) :: (d0, true, .tuple #[.int .i64 0, .bool true, v0]) :: fr) w')
    (h2 : buf = [] → MC X ds k ((d2, true, .bool false) :: (d1, true, .int .i64 (-1)) :: (d0, true, .tuple #[.int .i64 (-1), .bool false, if agg then .agg zero.toArray else zero.headD undef]) :: fr) w) :
    MC X ds (.code (.region id #[⟨some d0, .select #[cs] false, ty0, p0, f0, none⟩, ⟨some d1, .extract (.tmp d0) 0, ty1, p1, f1, none⟩, ⟨some d2, .binOp .eql t1 (.tmp d1) (.const (.int .i64 0)) t2, ty2, p2, f2, none⟩] false) :: k) fr w := fun a hf => by
  simp only [Bool.and_eq_true] at hn
  obtain ⟨⟨n0, n1⟩, n2⟩ := hn
  have lkh : ∀ (t : Nat) (g : Bool) (u : Value) (fr : Fr), ev ((t, g, u) :: fr) (.tmp t) = some u := fun t g u fr => by simp [ev, lk]
  have he : (execOp a.eval ⟨some d0, .select #[cs] false, ty0, p0, f0, none⟩).run X.P w = .ok (.comm #[rcase q (if agg then .agg zero.toArray else zero.headD undef)] false .select) w := by
    obtain ⟨c1, c2, c3⟩ := hcs
    simp [execOp, c1, c2, c3, hf.ev hy, TyI.run_zero (P := X.P) (t := el) w, rcase]
  refine wpIn_of_reach ?_
  cases buf with
  | nil =>
    refine Reach.recv_none (i := 0) rfl rfl (by intro c e; cases e) he hs.obj_heap ?_
    have g0 := hf.put n0 true (.tuple #[goInt (-1), .bool false, if agg then .agg zero.toArray else zero.headD undef])
    have e1 := po_extract (P := X.P) (d := some d1) (ty := ty1) (pos := p1) (aft := f1) (g := none) (k := 0) (v := .int .i64 (-1)) (lkh d0 true _ fr) rfl _ _ _ g0 w
    have g1 := g0.put n1 true (.int .i64 (-1))
    have e2 := po_bin (P := X.P) (d := some d2) (ty := ty2) (pos := p2) (aft := f2) (g := none) (yt := t2) (y := .const (.int .i64 0)) (lkh d1 true (.int .i64 (-1)) _) rfl (br_eql (t := t1)) _ _ _ g1 w
    refine Reach.value (i := 1) rfl rfl (by intro c e; cases e) e1 ?_
    refine Reach.value (i := 2) rfl rfl (by intro c e; cases e) e2 ?_
    exact Reach.end_ (h2 rfl _ (g1.put n2 true _))
  | cons v0 buf' =>
    refine Reach.recv_buf (i := 0) (ss := #[cs]) (z' := undef) rfl rfl (by intro c e; cases e) he hs.obj_heap (by simp) ?_
    have g0 := hf.put n0 true (.tuple #[goInt 0, .bool true, v0])
    have e1 := fun w => po_extract (P := X.P) (d := some d1) (ty := ty1) (pos := p1) (aft := f1) (g := none) (k := 0) (v := .int .i64 0) (lkh d0 true _ fr) rfl _ _ _ g0 w
    have g1 := g0.put n1 true (.int .i64 0)
    have e2 := fun w => po_bin (P := X.P) (d := some d2) (ty := ty2) (pos := p2) (aft := f2) (g := none) (yt := t2) (y := .const (.int .i64 0)) (lkh d1 true (.int .i64 0) _) rfl (br_eql (t := t1)) _ _ _ g1 w
    have hb : (v0 :: buf').toArray.getD 0 undef = v0 := rfl
    have hx : (v0 :: buf').toArray.extract 1 (v0 :: buf').toArray.size = buf'.toArray := by simp
    rw [hb, hx]
    refine Reach.value (i := 1) rfl rfl (by intro c e; cases e) (e1 _) ?_
    refine Reach.value (i := 2) rfl rfl (by intro c e; cases e) (e2 _) ?_
    exact Reach.end_ (h1 v0 buf' rfl _ (hs.setChan cap buf'.toArray false sn (rn + 1)) _ (g1.put n2 true _))
theorem does_makeChan {P : Program} {r : Option Nat} {fr : Fr} {d : Option Tmp} {ty t e : TypeId} {pos : String} {aft : Array Edge} {g : Option (Nat × Bool)} {x : Operand} {dir : ChanDir} {bytes n : Nat} {agg : Bool} {size : Nat} {zero : List Value} [hT : TyU P t (.chan dir e)] [hI : TyI P e agg size bytes zero] (hs : Sat l w) (hx : ev fr x = some (.int .i64 (n : Int))) (hb : n * bytes ≤ 140737488355328) (hn : ¬ 9223372036854775807 < n) :
    Does P r ⟨d, .makeChan t x, ty, pos, aft, g⟩ fr w (fun v w' => ∃ q, v = .chan (some q) ∧ Sat (obj q (.chan n ([] : List Value).toArray false 0 0 false) :: l) w') := by
  refine does_value fun k ds a hf => ⟨_, w.alloc (.chan n #[] false 0 0 false), ?_, w.heap.size, rfl, hs.allocObj _⟩
  obtain ⟨i, hi, h1, h2, _⟩ := TyI.run_info (P := P) (t := e) w
  simp only [execOp, hf.ev hx, Instr.makeChan]
  have c2 : ¬ (281474976710544 < ((i.bytes : Nat) : Int) * (n : Int)) := by
    rw [h2]
    have : ((bytes * n : Nat) : Int) ≤ 281474976710544 := by rw [Nat.mul_comm]; omega
    rw [Int.natCast_mul] at this
    omega
  have c3 : ¬ ((n : Int) < 0 ∨ 9223372036854775807 < (n : Int) ∨ 281474976710544 < ((i.bytes : Nat) : Int) * (n : Int)) := by
    rintro (h | h | h)
    · omega
    · omega
    · exact c2 h
  simp [asInt, asIntOf, TyU.run (P := P) (t := t) w, hi, newObj, c3]
  rfl
end
end Go.Sl

namespace Go.Sl
open Go

def mget : List (Int × Value) → Int → Option Value
  | [], _ => none
  | (j, v) :: m, k => if j = k then some v else mget m k
def mset : List (Int × Value) → Int → Value → List (Int × Value)
  | [], k, v => [(k, v)]
  | (j, u) :: m, k, v => if j = k then (j, v) :: m else (j, u) :: mset m k v
def mdel : List (Int × Value) → Int → List (Int × Value)
  | [], _ => []
  | (j, u) :: m, k => if j = k then m else (j, u) :: mdel m k
def entsOf (m : List (Int × Value)) : List (Value × Value) := m.map fun x => (.int .i64 x.1, x.2)
def mp (q : Nat) (m : List (Int × Value)) : Assn := fun _ h => ∃ es clock, h q = some (.map es clock) ∧ es.toList.map (fun e => (e.key, e.val)) = entsOf m
theorem Sat.mp_heap {q : Nat} {m : List (Int × Value)} {l : List Assn} {w : World} (h : Sat (mp q m :: l) w) : ∃ es clock, w.heap[q]? = some (.map es clock) ∧ es.toList.map (fun e => (e.key, e.val)) = entsOf m := by
  obtain ⟨h1, _, _, l1, _, ⟨es, clock, ho, he⟩, _⟩ := h
  exact ⟨es, clock, l1 q _ ho, he⟩
theorem Sat.mp_obj {q : Nat} {m : List (Int × Value)} {l : List Assn} {w : World} (h : Sat (mp q m :: l) w) : ∃ es clock, es.toList.map (fun e => (e.key, e.val)) = entsOf m ∧ Sat (obj q (.map es clock) :: l) w := by
  obtain ⟨h1, h2, ap, l1, l2, ⟨es, clock, ho, he⟩, hl⟩ := h
  exact ⟨es, clock, he, h1, h2, ap, l1, l2, ho, hl⟩
theorem Sat.mp_of {q : Nat} {m : List (Int × Value)} {es : Array MapEntry} {clock : Nat} {l : List Assn} {w : World} (h : Sat (obj q (.map es clock) :: l) w) (he : es.toList.map (fun e => (e.key, e.val)) = entsOf m) : Sat (mp q m :: l) w :=
  h.imp fun _ _ ho => ⟨es, clock, ho, he⟩
class AtM (l : List Assn) (q : Nat) (m : outParam (List (Int × Value))) (G : outParam (Assn → List Assn)) : Prop where
  out : ∃ i, l[i]? = some (mp q m) ∧ ∀ B, G B = l.set i B
instance AtM.head (l : List Assn) (q : Nat) (m : List (Int × Value)) : AtM (mp q m :: l) q m (fun B => B :: l) := ⟨0, rfl, fun _ => rfl⟩
instance (priority := low) AtM.tail (A : Assn) (l : List Assn) (q : Nat) (m : List (Int × Value)) (G : Assn → List Assn) [h : AtM l q m G] : AtM (A :: l) q m (fun B => A :: G B) := by
  obtain ⟨i, h1, h2⟩ := h.out
  exact ⟨i + 1, by simpa using h1, fun B => by rw [h2]; rfl⟩
theorem AtM.sat {l : List Assn} {q : Nat} {m : List (Int × Value)} {G : Assn → List Assn} [h : AtM l q m G] {w : World} (hs : Sat l w) : Sat [mp q m] w := by
  obtain ⟨i, h1, _⟩ := h.out
  exact hs.alone_at i h1
def midx : List (Int × Value) → Int → Option Nat
  | [], _ => none
  | (j, _) :: m, k => if j = k then some 0 else (midx m k).map (· + 1)
theorem midx_none {k : Int} : ∀ {m : List (Int × Value)}, midx m k = none → mget m k = none ∧ (∀ v, mset m k v = m ++ [(k, v)]) ∧ mdel m k = m
  | [], _ => ⟨rfl, fun _ => rfl, rfl⟩
  | (j, u) :: m, h => by
    unfold midx at h
    by_cases hj : j = k
    · rw [if_pos hj] at h; cases h
    · rw [if_neg hj] at h
      have hm : midx m k = none := by cases hx : midx m k <;> simp [hx] at h ⊢
      obtain ⟨h1, h2, h3⟩ := midx_none hm
      exact ⟨by simp [mget, hj, h1], fun v => by simp [mset, hj, h2], by simp [mdel, hj, h3]⟩
theorem midx_some {k : Int} : ∀ {m : List (Int × Value)} {i : Nat}, midx m k = some i → ∃ v, m[i]? = some (k, v) ∧ mget m k = some v ∧ (∀ u, mset m k u = m.set i (k, u)) ∧ mdel m k = m.eraseIdx i
  | [], _, h => by cases h
  | (j, u) :: m, i, h => by
    unfold midx at h
    by_cases hj : j = k
    · rw [if_pos hj] at h; cases h
      subst hj
      exact ⟨u, rfl, by simp [mget], fun v => by simp [mset], by simp [mdel]⟩
    · rw [if_neg hj] at h
      cases hx : midx m k with
      | none => simp [hx] at h
      | some i' =>
        simp [hx] at h
        subst h
        obtain ⟨v, h1, h2, h3, h4⟩ := midx_some hx
        exact ⟨v, by simpa using h1, by simp [mget, hj, h2], fun u' => by simp [mset, hj, h3], by simp [mdel, hj, h4]⟩
theorem findNow_int {k : Int} {kd : IntKind} : ∀ (es : List MapEntry) (m : List (Int × Value)) (i : Nat), es.map (fun e => (e.key, e.val)) = entsOf m → Instr.findNow (.int kd) (.int .i64 k) es i = some ((midx m k).map fun j => (i + j, (mget m k).getD undef))
  | [], [], i, _ => rfl
  | [], _ :: _, _, h => by simp [entsOf] at h
  | _ :: _, [], _, h => by simp [entsOf] at h
  | e :: es, (j, u) :: m, i, h => by
    simp only [entsOf, List.map_cons, List.cons.injEq, Prod.mk.injEq] at h
    obtain ⟨⟨h1, h2⟩, h3⟩ := h
    unfold Instr.findNow
    rw [h1]
    by_cases hj : j = k
    · subst hj
      simp [Instr.sameNow, midx, mget, h2]
    · have hkj : ¬ k = j := fun h => hj h.symm
      have ih := findNow_int (k := k) (kd := kd) es m (i + 1) h3
      have hb : (k == j) = false := by simp [hkj]
      simp only [Instr.sameNow, if_true, hb, ih, midx, mget, if_neg hj]
      cases midx m k with
      | none => rfl
      | some n => simp; omega
section
variable {P : Program} {r : Option Nat} {fr : Fr} {d : Option Tmp} {ty : TypeId} {pos : String} {aft : Array Edge} {g : Option (Nat × Bool)} {v u z : Value} {x y c : Operand} {t key elem : TypeId} {w : World} {l : List Assn} {q : Nat} {k : Int} {m : List (Int × Value)} {G : Assn → List Assn}
theorem run_checkInt {e : Bool} {kd : IntKind} [hK : TyU P key (.int kd)] (w : World) : (Instr.checkKey e 10000 key (.int .i64 k)).run P w = .ok () w := by
  have h : ∀ n : Nat, (Instr.checkKey e (n + 1) key (.int .i64 k)).run P w = .ok () w := fun n => by
    simp [Instr.checkKey, TyU.run (P := P) (t := key) w]
  exact h 9999
theorem run_findInt {kd : IntKind} [hK : TyU P key (.int kd)] {es : List MapEntry} (h : es.map (fun e => (e.key, e.val)) = entsOf m) (w : World) : (Instr.findKey key (.int .i64 k) es).run P w = .ok ((midx m k).map fun j => (j, (mget m k).getD undef)) w := by
  have := findNow_int (k := k) (kd := kd) es m 0 h
  simp [Instr.findKey, TyU.run (P := P) (t := key) w, this]
theorem run_getMap {es : Array MapEntry} {clock : Nat} (h : w.heap[q]? = some (.map es clock)) : (getObj q).run P w = .ok (.map es clock) w := by simp [getObj, Sem.run, h]
theorem run_setMap {es : Array MapEntry} {clock : Nat} (h : w.heap[q]? = some (.map es clock)) (o' : Obj) : (setObj q o').run P w = .ok () { w with heap := w.heap.setIfInBounds q o' } := by simp [setObj, Sem.run, h]
theorem does_makeMap (hs : Sat l w) : Does P r ⟨d, .makeMap t none, ty, pos, aft, g⟩ fr w (fun v w' => ∃ q, v = .map (some q) ∧ Sat (mp q [] :: l) w') := by
  refine does_value fun n ds a hf => ⟨_, w.alloc (.map #[] 0), ?_, w.heap.size, rfl, Sat.mp_of (m := []) (hs.allocObj _) rfl⟩
  simp only [execOp, Instr.makeMap]
  simp [newObj]
  rfl
theorem la_lookup {kd : IntKind} [hT : TyU P t (.map key elem)] [hK : TyU P key (.int kd)] [hA : AtM l q m G] (hs : Sat l w) (hx : ev fr x = some (.map (some q))) (hy : ev fr y = some (.int .i64 k)) (h : mget m k = some v) :
    LooksAt P ⟨d, .lookup t x y false, ty, pos, aft, g⟩ fr w (Sat [mp q m]) v := by
  refine ⟨fun n ds a hf w hw => ?_, AtM.sat (h := hA) hs⟩
  obtain ⟨es, clock, hh, he⟩ := hw.mp_heap
  have hi : ∃ i, midx m k = some i := by
    cases hx : midx m k with
    | none => have := (midx_none hx).1; rw [h] at this; cases this
    | some i => exact ⟨i, rfl⟩
  obtain ⟨i, hi⟩ := hi
  simp only [execOp, hf.ev hx, hf.ev hy, Instr.lookup]
  simp [TyU.run (P := P) (t := t) w, run_getMap hh, run_checkInt (P := P) (key := key) (kd := kd) w, run_findInt (P := P) (key := key) (kd := kd) he w, hi, h]
theorem does_mapSet {kd : IntKind} [hT : TyU P t (.map key elem)] [hK : TyU P key (.int kd)] [hA : AtM l q m G] (hs : Sat l w) (hx : ev fr x = some (.map (some q))) (hy : ev fr y = some (.int .i64 k)) (hc : ev fr c = some v) :
    Does P r ⟨d, .mapUpdate t x y c, ty, pos, aft, g⟩ fr w (fun _ w' => Sat (G (mp q (mset m k v))) w') := by
  obtain ⟨i, h1, h2⟩ := hA.out
  obtain ⟨es, clock, hh, he⟩ := (AtM.sat (h := hA) hs).mp_heap
  cases hx2 : midx m k with
  | none =>
    refine does_skip rfl fun n ds a hf => ⟨{ w with heap := w.heap.setIfInBounds q (.map (es.push { key := .int .i64 k, val := v, born := clock }) (clock + 1)) }, ?_, ?_⟩
    · simp only [execOp, hf.ev hx, hf.ev hy, hf.ev hc, Instr.mapUpdate]
      simp [TyU.run (P := P) (t := t) w, run_getMap hh, run_checkInt (P := P) (key := key) (kd := kd) w, run_findInt (P := P) (key := key) (kd := kd) he w, hx2, run_setMap hh]
    · rw [h2]
      refine hs.set_at i h1 fun rest hr => ?_
      obtain ⟨es2, clock2, he2, hr⟩ := hr.mp_obj
      refine Sat.mp_of hr.putObj ?_
      rw [(midx_none hx2).2.1]
      simp [entsOf, he]
  | some j =>
    obtain ⟨u0, g1, g2, g3, _⟩ := midx_some hx2
    have hej : ∃ e, es.toList[j]? = some e ∧ e.key = .int .i64 k := by
      have h3 := congrArg (fun l => l[j]?) he
      simp only [entsOf, List.getElem?_map, g1, Option.map_some] at h3
      cases h4 : es.toList[j]? with
      | none => rw [h4] at h3; cases h3
      | some e => rw [h4] at h3; simp at h3; exact ⟨e, rfl, h3.1⟩
    obtain ⟨e, he1, he2⟩ := hej
    have he1' : es[j]? = some e := by rw [← Array.getElem?_toList]; exact he1
    have hst : (Instr.keyThatStays (.int .i64 k) (.int .i64 k)).run P w = .ok (.int .i64 k) w := by
      have hb : ∀ n : Nat, Instr.sameBits n (.int .i64 k) (.int .i64 k) = true := fun n => by simp [Instr.sameBits]
      unfold Instr.keyThatStays
      rw [hb]; rfl
    refine does_skip rfl fun n ds a hf => ⟨{ w with heap := w.heap.setIfInBounds q (.map (es.modify j fun e => { e with key := .int .i64 k, val := v }) clock) }, ?_, ?_⟩
    · simp only [execOp, hf.ev hx, hf.ev hy, hf.ev hc, Instr.mapUpdate]
      simp [TyU.run (P := P) (t := t) w, run_getMap hh, run_checkInt (P := P) (key := key) (kd := kd) w, run_findInt (P := P) (key := key) (kd := kd) he w, hx2, he1', he2, hst, run_setMap hh]
    · rw [h2]
      refine hs.set_at i h1 fun rest hr => ?_
      obtain ⟨es2, clock2, he2, hr⟩ := hr.mp_obj
      refine Sat.mp_of hr.putObj ?_
      rw [g3]
      apply List.ext_getElem?
      intro n
      have h3 := congrArg (fun l => l[n]?) he
      simp only [entsOf, List.getElem?_map] at h3 ⊢
      simp only [Array.getElem?_toList, Array.getElem?_modify, List.getElem?_set] at h3 ⊢
      by_cases hn : j = n
      · subst hn
        have hlt : j < m.length := by
          rcases Nat.lt_or_ge j m.length with h' | h'
          · exact h'
          · rw [List.getElem?_eq_none h'] at g1; cases g1
        simp [he1', hlt]
      · simp [hn]; exact h3
theorem does_mapDel {kd : IntKind} {ts : Array TypeId} [hT : TyU P t (.map key elem)] [hK : TyU P key (.int kd)] [hA : AtM l q m G] (hs : Sat l w) (hx : ev fr x = some (.map (some q))) (hy : ev fr y = some (.int .i64 k)) (hts : ts[0]? = some t) :
    Does P r ⟨d, .call { callee := .builtin .delete, args := #[x, y], argTypes := ts }, ty, pos, aft, g⟩ fr w (fun _ w' => Sat (G (mp q (mdel m k))) w') := by
  obtain ⟨i, h1, h2⟩ := hA.out
  obtain ⟨es, clock, hh, he⟩ := (AtM.sat (h := hA) hs).mp_heap
  have hkey : ∀ es' : Array MapEntry, es'.toList.map (fun e => (e.key, e.val)) = entsOf (mdel m k) → Sat (G (mp q (mdel m k))) { w with heap := w.heap.setIfInBounds q (.map es' clock) } := fun es' h' => by
    rw [h2]
    refine hs.set_at i h1 fun rest hr => ?_
    obtain ⟨es2, clock2, he2, hr⟩ := hr.mp_obj
    exact Sat.mp_of hr.putObj h'
  cases hx2 : midx m k with
  | none =>
    refine does_value fun n ds a hf => ⟨.tuple #[], _, ?_, hkey es (by rw [(midx_none hx2).2.2]; exact he)⟩
    simp [execOp, resolve, invoke, builtin, hf.ev hx, hf.ev hy, Builtin.delete_, hts, TyU.run (P := P) (t := t) w, run_getMap hh, run_checkInt (P := P) (kd := kd) w, run_findInt (P := P) (kd := kd) he w, hx2, run_setMap hh]
  | some j =>
    obtain ⟨u0, g1, g2, g3, g4⟩ := midx_some hx2
    refine does_value fun n ds a hf => ⟨.tuple #[], _, ?_, hkey (es.eraseIdxIfInBounds j) (by
      rw [g4]
      have hlt : j < es.size := by
        have h3 := congrArg List.length he
        simp [entsOf] at h3
        rcases Nat.lt_or_ge j m.length with h' | h'
        · omega
        · rw [List.getElem?_eq_none h'] at g1; cases g1
      have : (es.eraseIdxIfInBounds j).toList = es.toList.eraseIdx j := by
        simp [Array.eraseIdxIfInBounds, hlt]
      rw [this, ← eraseIdx_map', he, entsOf, eraseIdx_map']; rfl)⟩
    simp [execOp, resolve, invoke, builtin, hf.ev hx, hf.ev hy, Builtin.delete_, hts, TyU.run (P := P) (t := t) w, run_getMap hh, run_checkInt (P := P) (kd := kd) w, run_findInt (P := P) (kd := kd) he w, hx2, run_setMap hh]
theorem does_mapClear {ts : Array TypeId} [hT : TyU P t (.map key elem)] [hA : AtM l q m G] (hs : Sat l w) (hx : ev fr x = some (.map (some q))) (hts : ts[0]? = some t) :
    Does P r ⟨d, .call { callee := .builtin .clear, args := #[x], argTypes := ts }, ty, pos, aft, g⟩ fr w (fun _ w' => Sat (G (mp q [])) w') := by
  obtain ⟨i, h1, h2⟩ := hA.out
  obtain ⟨es, clock, hh, he⟩ := (AtM.sat (h := hA) hs).mp_heap
  refine does_value fun n ds a hf => ⟨.tuple #[], { w with heap := w.heap.setIfInBounds q (.map #[] clock) }, ?_, ?_⟩
  · simp [execOp, resolve, invoke, builtin, hf.ev hx, Builtin.clear_, hts, TyU.run (P := P) (t := t) w, run_getMap hh, run_setMap hh]
  · rw [h2]
    refine hs.set_at i h1 fun rest hr => ?_
    obtain ⟨es2, clock2, he2, hr⟩ := hr.mp_obj
    exact Sat.mp_of (m := []) hr.putObj rfl
theorem br_map_nil [hT : TyU P t (.map key elem)] : Bin P .eql t (.map (some q)) (.map none) (.bool false) := fun _ _ w => by
  have h : (Op.equal t (.map (some q)) (.map none)).run P w = .ok false w := by
    unfold Op.equal Op.maxDepth Op.equalIn
    rw [Sem.run_bind, TyU.run (t := t) w]
    simp
  simp [eqGuard, binOp, h]
class Ext (P : Program) (f : FuncId) (e : outParam (Array Value → Sem Value)) : Prop where
  h : ∀ (args : Array Value) (w : World), (callFunc f args).run P w = ((e args).run P w).andThen fun v w' => .ok (.value v) w'
theorem does_ext {f : FuncId} {e : Array Value → Sem Value} [hE : Ext P f e] {args : Array Operand} {ts : Array TypeId} {vs : List Value} {Post : Value → World → Prop} (he : evs fr args.toList = some vs) (h : ∃ v w', (e vs.toArray).run P w = .ok v w' ∧ Post v w') :
    Does P r ⟨d, .call { callee := .value (.func f), args := args, argTypes := ts }, ty, pos, aft, g⟩ fr w Post := by
  obtain ⟨v, w', h1, h2⟩ := h
  refine does_value fun n ds a hf => ⟨v, w', ?_, h2⟩
  have e1 : args.map a.eval = vs.toArray := by apply Array.ext'; simpa using hf.evs he
  have hc := hE.h vs.toArray w
  simp [execOp, resolve, Deferred.ofValue, invoke, Act.eval, e1, hc, h1]
theorem run_mapsClone [hA : AtM l q m G] (hs : Sat l w) (t : TypeId) : ∃ q', ∃ w', (Extern.MapsClone.clone #[.iface t (.map (some q))]).run P w = .ok (.iface t (.map (some q'))) w' ∧ Sat (mp q' m :: l) w' := by
  obtain ⟨es, clock, hh, he⟩ := (AtM.sat (h := hA) hs).mp_heap
  refine ⟨w.heap.size, w.alloc (.map es clock), ?_, Sat.mp_of (hs.allocObj _) he⟩
  have e : Extern.MapsClone.clone #[.iface t (.map (some q))] = (do
    let .map entries clock ← getObj q | stuck "maps.clone: a map expected"
    pure (.iface t (.map (some (← newObj (.map entries clock)))))) := rfl
  rw [e]
  simp [run_getMap hh, newObj]
  rfl
theorem po_assertMap {xt : TypeId} [hT : TyU P t (.map key elem)] (hx : ev fr x = some (.iface t v)) : Pure P ⟨d, .typeAssert x xt t false, ty, pos, aft, g⟩ fr v := fun n ds a hf w => by
  simp [execOp, hf.ev hx, Instr.typeAssert, TyU.run (P := P) (t := t) w]
theorem po_makeIfaceM {xt : TypeId} [hT : TyU P xt (.map key elem)] (hx : ev fr x = some v) : Pure P ⟨d, .makeInterface xt x, ty, pos, aft, g⟩ fr (.iface xt v) := fun n ds a hf w => by
  simp [execOp, hf.ev hx, Instr.makeInterface, TyU.run (P := P) (t := xt) w]
end
end Go.Sl
