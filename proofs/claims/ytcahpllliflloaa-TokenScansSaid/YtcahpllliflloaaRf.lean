/-
  Ranges over functions: what an iterator owes, and what the statement does. Nothing of a program stands here.
-/
import Derived.Test.YtcahpllliflloaaEx
import Derived.RangeFuncLeaves
import Derived.RangeFuncOwn
set_option linter.unusedVariables false
set_option linter.unusedSimpArgs false
namespace Go.Sl
open Go

/-! ### A point that several ways lead to, told by its place in what is to be done -/
theorem wpInQ_mono {F : Fence} {n : Nat} {P : Program} {o : Oper} {a : Act} {w : World} {K : Act → World → Prop} {Q Q' : Exit → Act → World → Prop} (h : ∀ e a w, Q e a w → Q' e a w)
    (hh : o.wpIn F n P a w K Q) : o.wpIn F n P a w K Q' := by
  unfold Oper.wpIn at *
  refine ⟨hh.1, ?_⟩
  have hh := hh.2
  generalize (o.semAt F.round a.eval).run P w = r at *
  cases r with
  | ok x w' =>
    cases x <;> simp only [Oper.uponIn] at hh ⊢ <;>
      first
        | exact hh
        | exact ⟨hh.1, CallsIn.mono hh.2 (fun e w'' he => by cases e <;> first | exact he | exact h _ _ _ he | (obtain ⟨x, y, z⟩ := he; exact ⟨x, y, h _ _ _ z⟩))⟩
        | exact ⟨hh.1, RoundIn.mono hh.2 (fun e w'' he => by cases e <;> first | exact he | exact h _ _ _ he | (obtain ⟨x, y, z⟩ := he; exact ⟨x, y, h _ _ _ z⟩))⟩
  | halt x w' => cases x <;> simp only [Oper.uponIn] at hh ⊢ <;> first | exact hh | exact h _ _ _ hh
theorem Lst.mono {P : Program} {r : Option Nat} {ops : Array Oper} {Q Q' : Exit → Act → World → Prop} {det : Bool} (h : ∀ e a w, Q e a w → Q' e a w) :
    ∀ {R : List (Nat × Oper)} {obs : Obs} {a : Act} {w : World}, Lst P r ops Q det obs R a w → Lst P r ops Q' det obs R a w
  | [], _, _, _, hh => h _ _ _ hh
  | (k, o) :: R, obs, a, w, hh => by
    rcases hh with ⟨v, C, hy, hC, hh⟩ | ⟨hw, hd, hh⟩
    · exact .inl ⟨v, C, hy, hC, Lst.mono h hh⟩
    · refine .inr ⟨hw, hd, fun Q'' hQ'' => ?_⟩
      cases det with
      | true =>
        cases hQ'' rfl
        exact wpInQ_mono h (Oper.wpIn_mono (fun a' w' hk => ⟨hk.1, Lst.mono h hk.2⟩) (hh Q fun _ => rfl))
      | false => exact Oper.wpIn_mono (fun a' w' hk => ⟨hk.1, Lst.mono h hk.2⟩) (hh Q'' fun e => by cases e)
def noOps : List It → Bool := fun _ => true
theorem post_cut {P : Program} {r : Option Nat} {Q : Po} {K : Act → World → Prop} {k2 : List It} (h : ∀ a w, K a w → post P r Q k2 .normal a w) :
    ∀ (k1 : List It) (e : Exit) (a : Act) (w : World), noOps k1 = true → post P r Q (k1 ++ .goal K :: k2) e a w → post P r Q (k1 ++ k2) e a w := by
  intro k1
  induction k1 with
  | nil =>
    intro e a w _ hp
    cases e <;> first | exact h a w hp | exact hp
  | cons x k1 ih =>
    intro e a w hn hp
    cases x with
    | code c =>
      have ih' := fun e a w => ih e a w rfl
      cases e <;> first | exact wpIn_mono hp ih' | exact ih' _ a w hp
    | blk id =>
      have ih' := fun e a w => ih e a w rfl
      cases e with
      | exit id' =>
        simp only [List.cons_append, post] at hp ⊢
        split
        · rename_i he; rw [if_pos he] at hp; exact ih' _ a w hp
        · rename_i he; rw [if_neg he] at hp; exact ih' _ a w hp
      | _ => exact ih' _ a w hp
    | ops =>
      have ih' := fun e a w => ih e a w rfl
      cases e <;> first | exact Lst.mono ih' hp | exact ih' _ a w hp
    | goal K' =>
      have ih' := fun e a w => ih e a w rfl
      cases e <;> first | exact hp | exact ih' _ a w hp
theorem MC.cutAt {X : Cx} {ds : List Deferred} {k : List It} {fr : Fr} {w : World} (j : Nat) (fr' : Fr) (I : World → Prop) (hn : noOps (k.take j) = true) (h2 : ∀ w', I w' → MC X ds (k.drop j) fr' w')
    (h1 : MC X ds (k.take j ++ .goal (fun a' w' => Fits X.n ds fr' a' ∧ I w') :: k.drop j) fr w) : MC X ds k fr w := fun a hf => by
  have := post_cut (fun a w ⟨h, hI⟩ => h2 w hI a h) (k.take j) .normal a w hn (h1 a hf)
  rwa [List.take_append_drop] at this

section
variable {P : Program} {fr : Fr} {d : Option Tmp} {ty t e : TypeId} {pos : String} {aft : Array Edge} {g : Option (Nat × Bool)} {x hi : Operand} {b o n : Nat} {agg : Bool} {size bytes : Nat} {zero : List Value}
theorem po_sliceArr [h1 : TyU P t (.array n e)] [h2 : TyI P e agg size bytes zero] (hx : ev fr x = some (.pointer (some ⟨b, o, none⟩))) : Pure P ⟨d, .slice t x none none none, ty, pos, aft, g⟩ fr (.slice (some ⟨b, o, none⟩) n n) := fun m ds ac hf w => by
  simp only [execOp, hf.ev hx, Instr.sliceAt, Option.map_none, Instr.sliceBounds]
  simp [TyU.run (P := P) (t := t) w, Instr.sureAddr, TyI.run_size (P := P) (t := e) w, Addr.add]
theorem po_sliceArr_hi [h1 : TyU P t (.array n e)] [h2 : TyI P e agg size bytes zero] {k : IntKind} {j : Nat} (hx : ev fr x = some (.pointer (some ⟨b, o, none⟩))) (hh : ev fr hi = some (.int k (j : Int))) (h : j ≤ n) : Pure P ⟨d, .slice t x none (some hi) none, ty, pos, aft, g⟩ fr (.slice (some ⟨b, o, none⟩) j n) := fun m ds ac hf w => by
  simp only [execOp, hf.ev hx, hf.ev hh, Instr.sliceAt, Option.map_some, Option.map_none, Instr.sliceBounds]
  simp [TyU.run (P := P) (t := t) w, Instr.sureAddr, run_bound (P := P) h, TyI.run_size (P := P) (t := e) w, Addr.add]
end
/-- What a call of yield does. -/
def Yd (P : Program) (L : Nat) (args : List Value) (w : World) (Post : Value → World → Prop) : Prop :=
  YieldAt (Wd none) 0 P L args.toArray w fun e w' => ∃ v, e = .returned v ∧ Post v w'
/-- An iterator: N elements, one after the other; it stops where yield hands back false. -/
def Iter (P : Program) (gf : FuncId) (lb : List Value) (J : Nat → World → Prop) (Jx : World → Prop) (enc : Nat → Value) (N : Nat) : Prop :=
  ∀ L w, (∀ i w, i < N → J i w → Yd P L [enc i] w fun v w' => (v = .bool true ∧ J (i + 1) w') ∨ (v = .bool false ∧ Jx w')) → J 0 w → Ret P gf (.func (.yield L) #[] #[] :: lb) w fun _ w' => J N w' ∨ Jx w'
abbrev mark (D : Nat) : Deferred := { target := .collected D, args := #[] }
abbrev shelf (D : Nat) : Assn := obj D (.deferred (some []))
abbrev lp (L : Nat) (rec : Loop) : Assn := obj L (.loop rec)
section
variable {P : Program} {n : Nat} {fr : Fr} {w : World} {l : List Assn} {k : List It} {ds : List Deferred} {Q : Po} {R : Ending → World → Prop} {L D : Nat} {rec : Loop}
theorem does_yield {d : Option Tmp} {ty : TypeId} {pos : String} {aft : Array Edge} {g : Option (Nat × Bool)} {x : Operand} {args : Array Operand} {ts : Array TypeId} {vs : List Value} {Post : Value → World → Prop} (hx : ev fr x = some (.func (.yield L) #[] #[])) (he : evs fr args.toList = some vs) (h : Yd P L vs w Post) :
    Does P none ⟨d, .call { callee := .value x, args := args, argTypes := ts }, ty, pos, aft, g⟩ fr w Post := fun n ds a hf K Q hK => by
  have e1 : args.map a.eval = vs.toArray := by apply Array.ext'; simpa using hf.evs he
  obtain ⟨fn, tmps, assign, body, hy, hR⟩ := h
  refine ⟨fun _ _ => trivial, ?_⟩
  rw [show Oper.semAt (Wd none).round a.eval _ = execOp a.eval _ from Oper.semAt_eq _ _ _ (noDefer_spec rfl)]
  have hy' : (execOp a.eval (⟨d, .call { callee := .value x, args := args, argTypes := ts }, ty, pos, aft, g⟩ : Oper)).run P w = .ok (.round L fn tmps assign body) w := by
    simp [execOp, resolve, Deferred.ofValue, invoke, hf.ev hx, e1, hy]
  rw [hy', Oper.uponIn_round]
  refine ⟨fun hf => by simp [Wd] at hf, RoundIn.mono hR ?_⟩
  rintro e w' ⟨v, rfl, hp⟩
  exact hK v w' hp

/-- Between the assignment of a round and its body. -/
def Begin (P : Program) (L : Nat) (body : Code) (R : Ending → World → Prop) (a : Act) (w : World) : Prop :=
  ∃ w₂, (Instr.beginRound L).run P w = .ok () w₂ ∧ body.wpIn (Wd (some L)) 0 P (roundPost P L R) a w₂
/-- What a round must come to. -/
def Rnd (L D : Nat) (rec : Loop) (J1 : List Assn) (cs : List Code) (lx : Code → List Assn) (e : Ending) (w' : World) : Prop :=
  ∃ v, e = .returned v ∧ ((v = .bool true ∧ Sat (lp L rec :: shelf D :: J1) w') ∨ (v = .bool false ∧ ∃ c, c ∈ cs ∧ Sat (lp L { rec with state := .done, pending := some c } :: shelf D :: lx c) w'))
abbrev busy (rec : Loop) : Loop := { rec with state := .busy }
def isReady (rec : Loop) : Prop := rec.state = .ready ∧ rec.pending = none
theorem MC.begin {body : Code} (hr : isReady rec) (hs : Sat (lp L rec :: l) w) (h : ∀ w', Sat (lp L (busy rec) :: l) w' → MC ⟨P, some L, n, roundPost P L R⟩ [] [.code body] fr w') : MC ⟨P, some L, n, Q⟩ [] (.goal (Begin P L body R) :: k) fr w := fun a hf =>
  ⟨_, run_beginRound hs.obj_heap hr.1, wpIn_mono (h _ hs.putObj a hf) fun _ _ _ h => h⟩
theorem MC.more {J1 : List Assn} {cs : List Code} {lx : Code → List Assn} (hr : isReady rec) (hs : Sat (lp L (busy rec) :: shelf D :: J1) w) : MC ⟨P, some L, n, roundPost P L (Rnd L D rec J1 cs lx)⟩ ds [] fr w := fun a hf =>
  ⟨_, _, run_endRound none hs.obj_heap, _, rfl, .inl ⟨rfl, by
    obtain ⟨h1, h2⟩ := hr
    have := hs.putObj (o' := .loop { busy rec with state := .ready, pending := none })
    have e : ({ busy rec with state := .ready, pending := none } : Loop) = rec := by cases rec; simp_all
    rw [e] at this
    have e2 : ({ busy rec with state := if (none : Option Code).isNone then .ready else .done, pending := none } : Loop) = rec := e
    rw [e2]
    exact this⟩⟩
/-- No block of this id is open. -/
def outOf (id : Nat) : List It → Bool
  | [] => true
  | .blk i :: k => bif Nat.beq i id then false else outOf id k
  | _ :: k => outOf id k
theorem post_exitOut {r : Option Nat} {id : Nat} : ∀ {k : List It} {a : Act} {w : World}, outOf id k = true → Q (.exit id) a w → post P r Q k (.exit id) a w
  | [], _, _, _, h => h
  | .blk i :: k, a, w, h, hq => by
    simp only [outOf] at h
    cases hb : Nat.beq i id with
    | true => rw [hb] at h; cases h
    | false =>
      rw [hb] at h
      have : id ≠ i := by rintro rfl; simp at hb
      simp only [post, this, if_false]
      exact post_exitOut h hq
  | .code _ :: k, a, w, h, hq => post_exitOut (k := k) h hq
  | .ops .. :: k, a, w, h, hq => post_exitOut (k := k) h hq
  | .goal _ :: k, a, w, h, hq => post_exitOut (k := k) h hq
theorem MC.stop {J1 : List Assn} {cs : List Code} {lx : Code → List Assn} {id : Nat} (hk : outOf id k = true) (hc : .exit id ∈ cs) (hs : Sat (lp L (busy rec) :: shelf D :: lx (.exit id)) w) :
    MC ⟨P, some L, n, roundPost P L (Rnd L D rec J1 cs lx)⟩ ds (.code (.exit id) :: k) fr w := fun a hf =>
  wpIn_exit (post_exitOut hk ⟨_, _, run_endRound (some (.exit id)) hs.obj_heap, _, rfl, .inr ⟨rfl, _, hc, hs.putObj⟩⟩)
theorem MC.stopRet {J1 : List Assn} {cs : List Code} {lx : Code → List Assn} (hc : .ret ∈ cs) (hs : Sat (lp L (busy rec) :: shelf D :: lx .ret) w) :
    MC ⟨P, some L, n, roundPost P L (Rnd L D rec J1 cs lx)⟩ ds (.code .ret :: k) fr w := fun a hf =>
  wpIn_ret (by rw [post_ret]; exact ⟨_, _, run_endRound (some .ret) hs.obj_heap, _, rfl, .inr ⟨rfl, _, hc, hs.putObj⟩⟩)

/-- The statement. -/
theorem MC.rangeFunc {X : Cx} (hX : X.r = none) {g : Operand} {t : Nat} {assign body : Code} {gf : FuncId} [hF : Fun X.P gf] {lb : List Value} (Jc : Nat → List Assn) (N : Nat) (enc : Nat → Value) (cs : List Code) (lx : Code → List Assn)
    (hg : ev fr g = some (.func (.func gf) #[] lb.toArray)) (ht : okD X.n (some t) = true) (hs : Sat (Jc 0) w)
    (iter : ∀ (pre : List Assn) (Jx : World → Prop), Iter X.P gf lb (fun i w => Sat (pre ++ Jc i) w) Jx enc N)
    (round : ∀ (L D i : Nat) (rec : Loop) (w : World), i < N → isReady rec → Sat (lp L rec :: shelf D :: Jc i) w →
      MC ⟨X.P, some L, X.n, fun _ _ _ => False⟩ [] [.code assign, .goal (Begin X.P L body (Rnd L D rec (Jc (i + 1)) cs lx))] ((t, true, enc i) :: fr) w)
    (hdone : ∀ D w', Sat (shelf D :: Jc N) w' → MC X (mark D :: ds) k fr w')
    (hstop : ∀ c D w', c ∈ cs → Sat (shelf D :: lx c) w' → MC X (mark D :: ds) (.code c :: k) fr w') :
    MC X ds (.code (.rangeFunc g #[t] assign body) :: k) fr w := fun a hf => by
  obtain ⟨P, r, n, Q⟩ := X
  subst hX
  refine wpIn_rangeFunc ?_
  intro fn hfn
  obtain ⟨rec, hrec⟩ : ∃ rec : Loop, rec = { state := .ready, pending := none, fn, tmps := a.tmps, params := #[t], assign, body, defers := w.heap.size } := ⟨_, rfl⟩
  have hready : isReady rec := by rw [hrec]; exact ⟨rfl, rfl⟩
  have hs1 : Sat (shelf w.heap.size :: Jc 0) (w.alloc (.deferred (some []))) := hs.allocObj _
  have hs2 : Sat (lp (w.heap.size + 1) rec :: shelf w.heap.size :: Jc 0) ((w.alloc (.deferred (some []))).alloc (.loop rec)) := by
    have := hs1.allocObj (.loop rec); rwa [World.size_alloc] at this
  refine ⟨w.heap.size + 1, [mark w.heap.size], (w.alloc (.deferred (some []))).alloc (.loop rec), { target := .fn (.func gf) lb.toArray, args := #[.func (.yield (w.heap.size + 1)) #[] #[]] }, (w.alloc (.deferred (some []))).alloc (.loop rec), gf,
    #[.func (.yield (w.heap.size + 1)) #[] #[]] ++ lb.toArray, (w.alloc (.deferred (some []))).alloc (.loop rec), ?_, ?_, fun _ _ => trivial, ?_, fun h => by simp [Wd] at h, ?_⟩
  · rw [hrec]; exact run_enterLoop_outer _ _ _ _ _
  · simp only [resolve, hf.ev hg]
    simp [go_sem]
  · have := hF.h (#[.func (.yield (w.heap.size + 1)) #[] #[]] ++ lb.toArray) ((w.alloc (.deferred (some []))).alloc (.loop rec))
    simp at this
    simp [invoke, go_sem, this]
  · have hit := iter [lp (w.heap.size + 1) rec, shelf w.heap.size] (fun w' => ∃ c, c ∈ cs ∧ Sat (lp (w.heap.size + 1) { rec with state := .done, pending := some c } :: shelf w.heap.size :: lx c) w') (w.heap.size + 1) _ (fun i w1 hi h1 => ?_) hs2
    · have hit' := (callsIn_wd (r := none) (n := 0)).2 hit
      have e : (.func (.yield (w.heap.size + 1)) #[] #[] :: lb : List Value).toArray = #[.func (.yield (w.heap.size + 1)) #[] #[]] ++ lb.toArray := by simp
      rw [e] at hit'
      refine hit'.mono ?_
      rintro _ w2 ⟨v, rfl, h2 | ⟨c, hc, h2⟩⟩
      · have h2 : Sat (lp (w.heap.size + 1) rec :: shelf w.heap.size :: Jc N) w2 := h2
        refine ⟨none, _, by have := run_endLoop (P := P) h2.obj_heap (by rw [hready.1]; simp); rw [hready.2] at this; exact this, ?_⟩
        exact hdone _ _ (h2.putObj).tail _ ⟨hf.size, by simp [hf.defers], hf.slot⟩
      · refine ⟨some c, _, run_endLoop (P := P) h2.obj_heap (by simp), ?_⟩
        exact hstop _ _ _ hc (h2.putObj).tail _ ⟨hf.size, by simp [hf.defers], hf.slot⟩
    · have h1 : Sat (lp (w.heap.size + 1) rec :: shelf w.heap.size :: Jc i) w1 := h1
      have hy := run_yield (P := P) (args := #[enc i]) h1.obj_heap (by rw [hrec]; rfl)
      refine ⟨rec.fn, _, rec.assign, rec.body, hy, ?_⟩
      have hf' := hf.setD (d := some t) ht true (enc i)
      have hm := round (w.heap.size + 1) w.heap.size i rec w1 hi hready h1 { tmps := (a.put (some t) (enc i)).tmps, defers := [] } ⟨hf'.size, rfl, hf'.slot⟩
      have hm' : assign.wpIn (Wd (some (w.heap.size + 1))) 0 P (post P (some (w.heap.size + 1)) (fun _ _ _ => False) [.goal (Begin P (w.heap.size + 1) body (Rnd (w.heap.size + 1) w.heap.size rec (Jc (i + 1)) cs lx))]) { tmps := (a.put (some t) (enc i)).tmps, defers := [] } w1 := hm
      have e : ((#[t].zip #[enc i]).foldl (fun (tmps : Array Value) (x : Nat × Value) => tmps.setIfInBounds x.1 x.2) a.tmps) = (a.put (some t) (enc i)).tmps := by simp [Act.put]
      rw [hrec, ← e] at hm'
      rw [hrec]
      refine roundIn_of_wpIn hfn (wpIn_mono hm' ?_)
      intro e a' w' h
      cases e <;> first | exact h | exact h.elim

/-! ### A function that holds such a statement -/
theorem Ret.enterM {f : FuncId} {fn : Func} {c : Code} {Post : Value → World → Prop} (args : List (Bool × Value)) (n : Nat) (hf : P.funcs[f]? = some fn) (hb : fn.body = some c) (hn : fn.ntmps = n) (hargs : Nat.ble args.length n = true)
    (h : MC ⟨P, none, n, bodyPostM (Wd none) 0 P fn fun e w' => ∃ v, e = .returned v ∧ Post v w'⟩ [] [.code c] (frOf 0 args) w) : Ret P f (args.map (·.2)) w Post := by
  refine (callsIn_wd (r := none) (n := 0)).1 (callsIn_of_wp_marks hf hb trivial (h _ ⟨?_, rfl, fun t v e => ?_⟩) rfl)
  · have : args.length ≤ n := by simpa using hargs
    subst hn; simp; omega
  · obtain ⟨_, h2⟩ := lk_frOf e
    have h2 : (args.map (·.2))[t]? = some v := by simpa using h2
    have hlt : t < (args.map (·.2)).length := by
      rcases Nat.lt_or_ge t (args.map (·.2)).length with h' | h'
      · exact h'
      · rw [List.getElem?_eq_none h'] at h2; cases h2
    rw [Array.getElem?_append_left (by simpa using hlt)]
    simpa using h2
variable {fn : Func} {Post : Value → World → Prop}
theorem leaves0 {a : Act} {vs : List Value} (hf : Fits n [] fr a) (hr : resOf fr fn.results.toList = some vs) (h : Post (tup vs) w) : LeavesInM (Wd none) 0 P fn a.tmps (fun e w' => ∃ v, e = .returned v ∧ Post v w') a.defers .returning w := by
  rw [hf.defers]
  exact ⟨_, run_results hf hr w, _, rfl, h⟩
theorem leaves1 {a : Act} {vs : List Value} (hf : Fits n [mark D] fr a) (hr : resOf fr fn.results.toList = some vs) (hs : Sat (shelf D :: l) w) (h : ∀ w', Sat l w' → Post (tup vs) w') : LeavesInM (Wd none) 0 P fn a.tmps (fun e w' => ∃ v, e = .returned v ∧ Post v w') a.defers .returning w := by
  rw [hf.defers]
  exact ⟨by simp, .inl ⟨D, _, rfl, run_takeDeferred hs.obj_heap, _, run_results hf hr _, _, rfl, h _ (hs.putObj).tail⟩⟩
theorem MC.retM0 {vs : List Value} (hr : resOf fr fn.results.toList = some vs) (h : Post (tup vs) w) : MC ⟨P, none, n, bodyPostM (Wd none) 0 P fn fun e w' => ∃ v, e = .returned v ∧ Post v w'⟩ [] (.code .ret :: k) fr w := fun _ hf =>
  wpIn_ret (by rw [post_ret]; exact leaves0 hf hr h)
theorem MC.endM0 {vs : List Value} (hr : resOf fr fn.results.toList = some vs) (h : Post (tup vs) w) : MC ⟨P, none, n, bodyPostM (Wd none) 0 P fn fun e w' => ∃ v, e = .returned v ∧ Post v w'⟩ [] [] fr w := fun _ hf => leaves0 hf hr h
theorem MC.retM {vs : List Value} (hr : resOf fr fn.results.toList = some vs) (hs : Sat (shelf D :: l) w) (h : ∀ w', Sat l w' → Post (tup vs) w') : MC ⟨P, none, n, bodyPostM (Wd none) 0 P fn fun e w' => ∃ v, e = .returned v ∧ Post v w'⟩ [mark D] (.code .ret :: k) fr w := fun _ hf =>
  wpIn_ret (by rw [post_ret]; exact leaves1 hf hr hs h)
theorem MC.endM {vs : List Value} (hr : resOf fr fn.results.toList = some vs) (hs : Sat (shelf D :: l) w) (h : ∀ w', Sat l w' → Post (tup vs) w') : MC ⟨P, none, n, bodyPostM (Wd none) 0 P fn fun e w' => ∃ v, e = .returned v ∧ Post v w'⟩ [mark D] [] fr w := fun _ hf => leaves1 hf hr hs h
end
end Go.Sl
