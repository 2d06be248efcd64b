/-
  Walks: a frame told slot by slot, operations one by one, regions in one order that stands for all that their edges allow. Nothing of a program stands here.
-/
import Derived.Test.YtcahpllliflloaaSl
set_option linter.unusedVariables false
namespace Go.Sl
open Go

/-- No fence; in a round of a range over a function, or in none. -/
def Wd (r : Option Nat) : Fence := { fn := fun _ => True, depth := none, alive := false, round := r }
theorem wd_none : Wd none = Fence.wide := rfl
theorem callsIn_wd {r : Option Nat} {n : Nat} {P : Program} {f : FuncId} {args : Array Value} {w : World} {R : Ending → World → Prop} : CallsIn (Wd r) n P f args w R ↔ Calls P f args w R :=
  callsIn_wide (n := n)

/-! ### Frames -/
/-- Slot, 'is it written out', value. The mark is a hint for the reckoning below and says nothing. -/
abbrev Fr := List (Nat × Bool × Value)
def lk : Fr → Nat → Option Value
  | [], _ => none
  | (k, _, v) :: r, t => bif Nat.beq k t then some v else lk r t
def lkf : Fr → Nat → Option (Bool × Value)
  | [], _ => none
  | (k, f, v) :: r, t => bif Nat.beq k t then some (f, v) else lkf r t
theorem lkf_lk : ∀ {fr : Fr} {t : Nat} {f : Bool} {v : Value}, lkf fr t = some (f, v) → lk fr t = some v
  | (k, g, u) :: r, t, f, v, e => by
    simp only [lkf, lk] at e ⊢
    cases hb : Nat.beq k t with
    | true => rw [hb] at e; simp at e ⊢; exact e.2
    | false => rw [hb] at e; exact lkf_lk e
def ev (fr : Fr) : Operand → Option Value
  | .tmp t => lk fr t
  | .const v => some v
  | .global g => some (.pointer (some ⟨g, 0, none⟩))
  | .func f => some (.func (.func f) #[] #[])
def evf (fr : Fr) : Operand → Option (Bool × Value)
  | .tmp t => lkf fr t
  | .const v => some (true, v)
  | .global g => some (true, .pointer (some ⟨g, 0, none⟩))
  | .func f => some (true, .func (.func f) #[] #[])
theorem evf_ev {fr : Fr} {x : Operand} {f : Bool} {v : Value} (h : evf fr x = some (f, v)) : ev fr x = some v := by
  cases x with
  | tmp t => exact lkf_lk h
  | const u => simp only [evf, Option.some.injEq, Prod.mk.injEq] at h; simp [ev, h.2]
  | global g => simp only [evf, Option.some.injEq, Prod.mk.injEq] at h; simp [ev, h.2]
  | func g => simp only [evf, Option.some.injEq, Prod.mk.injEq] at h; simp [ev, h.2]
def evs (fr : Fr) : List Operand → Option (List Value)
  | [] => some []
  | x :: r => match ev fr x, evs fr r with
    | some v, some vs => some (v :: vs)
    | _, _ => none
structure Fits (n : Nat) (ds : List Deferred) (fr : Fr) (a : Act) : Prop where
  size : a.tmps.size = n
  defers : a.defers = ds
  slot : ∀ t v, lk fr t = some v → a.tmps[t]? = some v
section
variable {n : Nat} {ds : List Deferred} {fr fr' : Fr} {a : Act}
theorem Fits.ev (h : Fits n ds fr a) {x : Operand} {v : Value} (hx : ev fr x = some v) : a.eval x = v := by
  cases x with
  | tmp t => simp [Act.eval, Array.getD_eq_getD_getElem?, h.slot t v hx]
  | const u => simp only [Sl.ev, Option.some.injEq] at hx; exact hx
  | global g => simp only [Sl.ev, Option.some.injEq] at hx; exact hx
  | func f => simp only [Sl.ev, Option.some.injEq] at hx; exact hx
theorem Fits.evs (h : Fits n ds fr a) : ∀ {xs : List Operand} {vs : List Value}, evs fr xs = some vs → xs.map a.eval = vs
  | [], vs, e => by simp [Sl.evs] at e; simp [e]
  | x :: r, vs, e => by
    simp only [Sl.evs] at e
    split at e
    · rename_i v vs' h1 h2
      cases e
      simp [h.ev h1, h.evs h2]
    · cases e
theorem Fits.put (h : Fits n ds fr a) {d : Nat} (hd : Nat.blt d n = true) (f : Bool) (v : Value) : Fits n ds ((d, f, v) :: fr) (a.put (some d) v) := by
  have hd' : d < a.tmps.size := by rw [h.size]; simpa using hd
  refine ⟨by simp [Act.put, h.size], h.defers, fun t u hu => ?_⟩
  simp only [lk] at hu
  by_cases he : d = t
  · subst he
    simp at hu; subst hu
    simp [Act.put, hd']
  · have : Nat.beq d t = false := by rw [Bool.eq_false_iff]; intro hb; exact he (Nat.eq_of_beq_eq_true hb)
    rw [this] at hu
    simp only [Act.put, Array.getElem?_setIfInBounds_ne he]
    exact h.slot t u hu
theorem Fits.put_none (h : Fits n ds fr a) (v : Value) : Fits n ds fr (a.put none v) := h
/-- Whatever is told of less. -/
def Sub (fr fr' : Fr) : Prop := ∀ t v, lk fr' t = some v → lk fr t = some v
def incl (fr : Fr) : Fr → Prop
  | [] => True
  | (t, _, v) :: r => lk fr t = some v ∧ incl fr r
theorem incl.sub : ∀ {fr' : Fr}, incl fr fr' → Sub fr fr'
  | [], _, t, v, e => by cases e
  | (k, _, u) :: r, h, t, v, e => by
    simp only [lk] at e
    cases hb : Nat.beq k t with
    | true => rw [hb] at e; have : k = t := by simpa using hb
              subst this; cases e; exact h.1
    | false => rw [hb] at e; exact incl.sub h.2 t v e
theorem Fits.sub (h : Fits n ds fr a) (hs : Sub fr fr') : Fits n ds fr' a := ⟨h.size, h.defers, fun t v e => h.slot t v (hs t v e)⟩
end
/-- The slot that an operation writes, in a frame. -/
def setD (d : Option Tmp) (f : Bool) (v : Value) (fr : Fr) : Fr := match d with | some d => (d, f, v) :: fr | none => fr
def okD (n : Nat) : Option Tmp → Bool
  | some d => Nat.blt d n
  | none => true
theorem Fits.setD {n : Nat} {ds : List Deferred} {fr : Fr} {a : Act} (h : Fits n ds fr a) {d : Option Tmp} (hd : okD n d = true) (f : Bool) (v : Value) : Fits n ds (setD d f v fr) (a.put d v) := by
  cases d with
  | none => exact h
  | some d => exact h.put hd f v

/-! ### One operation -/
/-- It yields v, whatever the world, and leaves it alone. -/
def Pure (P : Program) (o : Oper) (fr : Fr) (v : Value) : Prop := ∀ n ds a, Fits n ds fr a → ∀ w, (execOp a.eval o).run P w = .ok (.value v) w
/-- It yields v in every world that C holds of, and leaves it alone. -/
def Looks (P : Program) (o : Oper) (fr : Fr) (C : World → Prop) (v : Value) : Prop := ∀ n ds a, Fits n ds fr a → ∀ w, C w → (execOp a.eval o).run P w = .ok (.value v) w
/-- It yields some value, and leaves some world, of which Post holds. -/
def Does (P : Program) (r : Option Nat) (o : Oper) (fr : Fr) (w : World) (Post : Value → World → Prop) : Prop :=
  ∀ n ds a, Fits n ds fr a → ∀ (K : Act → World → Prop) (Q : Exit → Act → World → Prop), (∀ v w', Post v w' → K (a.put o.dst v) w') → o.wpIn (Wd r) 0 P a w K Q

theorem wpIn_of_run {P : Program} {r : Option Nat} {o : Oper} {a : Act} {w w' : World} {v : Value} {K : Act → World → Prop} {Q : Exit → Act → World → Prop}
    (hd : ∀ c, o.op ≠ .defer c) (h : (execOp a.eval o).run P w = .ok (.value v) w') (hK : K (a.put o.dst v) w') : o.wpIn (Wd r) 0 P a w K Q := by
  refine ⟨fun _ _ => trivial, ?_⟩
  rw [show Oper.semAt (Wd r).round a.eval o = execOp a.eval o from Oper.semAt_eq _ _ _ hd, h]
  exact hK
theorem wpIn_of_skip {P : Program} {r : Option Nat} {o : Oper} {a : Act} {w w' : World} {K : Act → World → Prop} {Q : Exit → Act → World → Prop}
    (hd : ∀ c, o.op ≠ .defer c) (h : (execOp a.eval o).run P w = .ok .skip w') (hK : K (a.put o.dst undef) w') : o.wpIn (Wd r) 0 P a w K Q := by
  refine ⟨fun _ _ => trivial, ?_⟩
  rw [show Oper.semAt (Wd r).round a.eval o = execOp a.eval o from Oper.semAt_eq _ _ _ hd, h]
  exact hK
def noDefer (o : Oper) : Bool := match o.op with | .defer _ => false | _ => true
theorem noDefer_spec {o : Oper} (h : noDefer o = true) : ∀ c, o.op ≠ .defer c := by
  intro c e; simp [noDefer, e] at h
theorem noDefer_of_run {P : Program} {o : Oper} {ρ : Operand → Value} {w w' : World} {v : Value} (h : (execOp ρ o).run P w = .ok (.value v) w') : ∀ c, o.op ≠ .defer c := by
  intro c e
  unfold execOp at h
  simp only [e] at h
  generalize resolve ρ c o.type = s at h
  rw [show (do let d ← s; pure (Next.defer d) : Sem Next) = s.bind (fun d => Sem.pure (Next.defer d)) from rfl, Sem.run_bind'] at h
  cases hs : s.run P w with
  | ok d w1 => rw [hs] at h; simp [Result.andThen] at h
  | halt x w1 => rw [hs] at h; simp [Result.andThen] at h
theorem Pure.looks {P : Program} {o : Oper} {fr : Fr} {v : Value} (h : Pure P o fr v) : Looks P o fr (fun _ => True) v := fun n ds a hf w _ => h n ds a hf w
theorem Looks.does {P : Program} {r : Option Nat} {o : Oper} {fr : Fr} {C : World → Prop} {v : Value} {w : World} (h : Looks P o fr C v) (hC : C w) : Does P r o fr w fun u w' => u = v ∧ w' = w :=
  fun n ds a hf _ _ hK => wpIn_of_run (noDefer_of_run (h n ds a hf w hC)) (h n ds a hf w hC) (hK _ _ ⟨rfl, rfl⟩)
theorem Does.mono {P : Program} {r : Option Nat} {o : Oper} {fr : Fr} {w : World} {R R' : Value → World → Prop} (h : Does P r o fr w R) (hr : ∀ v w', R v w' → R' v w') : Does P r o fr w R' :=
  fun n ds a hf K Q hK => h n ds a hf K Q fun v w' hv => hK v w' (hr v w' hv)

/-! ### A list of operations, in the order that it stands in -/
/-- Is an operation wanted: its guard in a frame. -/
def wants (ops : Array Oper) (fr : Fr) (o : Oper) : Option Bool :=
  match o.guard with
  | none => some true
  | some (j, want) => match (ops[j]?).bind (·.dst) with
    | none => none
    | some d => match lk fr d with
      | some (.bool b) => some (b == want)
      | some (.tuple _) => some false
      | _ => none
theorem wants_spec {ops : Array Oper} {fr : Fr} {o : Oper} {b : Bool} {n : Nat} {ds : List Deferred} {a : Act} (h : wants ops fr o = some b) (hf : Fits n ds fr a) : Region.wanted o (yielded ops a.tmps) = b := by
  unfold wants at h
  unfold Region.wanted
  cases hg : o.guard with
  | none => rw [hg] at h; simpa using h
  | some g =>
    obtain ⟨j, want⟩ := g
    rw [hg] at h
    simp only at h ⊢
    cases hd : (ops[j]?).bind (·.dst) with
    | none => rw [hd] at h; cases h
    | some d =>
      rw [hd] at h
      simp only at h
      cases hv : lk fr d with
      | none => rw [hv] at h; cases h
      | some v =>
        rw [hv] at h
        have hs := hf.slot d v hv
        have hy : yielded ops a.tmps j = match v with | .bool b => some b | _ => none := by
          unfold yielded; rw [hd]; simp only [Option.bind_some, hs]; cases v <;> rfl
        rw [hy]
        cases v <;> simp only [Option.some.injEq] at h <;> first | (cases h; done) | (subst h; cases want <;> simp) | (subst h; rfl) | skip

/-- A list's operations with their numbers, in an order told by numbers. -/
def sel (ops : Array Oper) : List Nat → List (Nat × Oper)
  | [] => []
  | k :: ks => (k, ops.getD k default) :: sel ops ks
def num : Nat → List Oper → List (Nat × Oper)
  | _, [] => []
  | k, o :: l => (k, o) :: num (k + 1) l
/-- Does an operation wait for one of these? -/
def waitsFor (l : List Nat) (o : Oper) : Bool := o.after.toList.any fun e => Region.binds .any e && l.any (Nat.beq e.on)
/-- Do all that come later wait? -/
def allWait (k : Nat) (R : List (Nat × Oper)) : Bool := R.all fun x => waitsFor (k :: R.map (·.1)) x.2
abbrev Obs := List (Nat × (World → Prop))
/-- What was looked at by an operation that this one does not wait for. -/
def left (o : Oper) (obs : Obs) : Obs := obs.filter fun x => !waitsFor [x.1] o

/-- Operations still to come, with their numbers. 'det': they come in just this order; else in whatever order their edges allow. 'obs': what was looked at. -/
def Lst (P : Program) (r : Option Nat) (ops : Array Oper) (Q : Exit → Act → World → Prop) (det : Bool) : Obs → List (Nat × Oper) → Act → World → Prop
  | _, [], a, w => Q .normal a w
  | obs, (k, o) :: R, a, w =>
    (∃ v C, ((Region.wanted o (yielded ops a.tmps) = true ∧ ∀ w, C w → (execOp a.eval o).run P w = .ok (.value v) w) ∨ (Region.wanted o (yielded ops a.tmps) = false ∧ v = undef)) ∧ C w ∧
      Lst P r ops Q det ((k, C) :: obs) R (a.put o.dst v) w) ∨
    (Region.wanted o (yielded ops a.tmps) = true ∧ (det = false → allWait k R = true ∧ noDefer o = true) ∧
      ∀ Q', (det = true → Q' = Q) → o.wpIn (Wd r) 0 P a w (fun a' w' => (det = false → ∀ x ∈ left o obs, x.2 w') ∧ Lst P r ops Q det (left o obs) R a' w') Q')

section
variable {P : Program} {r : Option Nat} {ops : Array Oper} {Q : Exit → Act → World → Prop} {det : Bool}
theorem left_sub {o : Oper} {obs : Obs} {x : Nat × (World → Prop)} (h : x ∈ left o obs) : x ∈ obs := (List.mem_filter.1 h).1
theorem Lst.less : ∀ {R : List (Nat × Oper)} {obs obs' : Obs} {a : Act} {w : World}, (∀ x ∈ obs', (∀ w, x.2 w) ∨ x ∈ obs) → Lst P r ops Q det obs R a w → Lst P r ops Q det obs' R a w
  | [], _, _, _, _, _, h => h
  | (k, o) :: R, obs, obs', a, w, hs, h => by
    rcases h with ⟨v, C, hy, hC, h⟩ | ⟨hw, hd, h⟩
    · refine .inl ⟨v, C, hy, hC, Lst.less ?_ h⟩
      intro x hx
      rcases List.mem_cons.1 hx with rfl | hx
      · exact .inr List.mem_cons_self
      · exact (hs x hx).imp id (List.mem_cons_of_mem _)
    · refine .inr ⟨hw, hd, fun Q' hQ' => Oper.wpIn_mono ?_ (h Q' hQ')⟩
      rintro a' w' ⟨h1, h2⟩
      have hl : ∀ x ∈ left o obs', (∀ w, x.2 w) ∨ x ∈ left o obs := fun x hx => by
        rcases hs x (left_sub hx) with h' | h'
        · exact .inl h'
        · exact .inr (List.mem_filter.2 ⟨h', (List.mem_filter.1 hx).2⟩)
      refine ⟨fun hf x hx => ?_, Lst.less hl h2⟩
      rcases hl x hx with h' | h'
      · exact h' w'
      · exact h1 hf x h'

theorem Lst.det_list : ∀ {R : List (Nat × Oper)} {obs : Obs} {a : Act} {w : World}, Lst P r ops Q true obs R a w → wpListIn (Wd r) 0 P ops Q (R.map (·.2)) a w
  | [], _, _, _, h => h
  | (k, o) :: R, obs, a, w, h => by
    simp only [List.map_cons, wpListIn]
    rcases h with ⟨v, C, hy, hC, h⟩ | ⟨hw, _, h⟩
    · rcases hy with ⟨hw, hy⟩ | ⟨hw, rfl⟩
      · rw [if_pos hw]
        exact wpIn_of_run (noDefer_of_run (hy w hC)) (hy w hC) (Lst.det_list h)
      · rw [if_neg (by simp [hw])]
        exact ⟨fun _ _ => trivial, Lst.det_list h⟩
    · rw [if_pos hw]
      exact Oper.wpIn_mono (fun a' w' h' => Lst.det_list h'.2) (h Q fun _ => rfl)

theorem num_map : ∀ (l : List Oper) (k : Nat), (num k l).map (·.2) = l
  | [], _ => rfl
  | o :: l, k => by simp [num, num_map l (k + 1)]

/-! #### Whatever order the edges allow -/
def okR : List (Nat × Oper) → (ops : Array Oper) → Bool
  | [], _ => true
  | (k, o) :: R, ops => (o.after.toList.all fun e => !Region.binds .any e || (Nat.blt e.on ops.size && !(k :: R.map (·.1)).any (Nat.beq e.on))) &&
    (R.all fun x => waitsFor [k] x.2 || o.apart ops x.2) && noDefer o && (match o.op with | .select .. => false | _ => true) && okR R ops
def okPi (ops : Array Oper) (pi : List Nat) : Bool :=
  Nat.beq pi.length ops.size && distinct pi && ((List.range ops.size).all fun k => pi.any (Nat.beq k)) && pi.all (fun k => Nat.blt k ops.size) && okR (sel ops pi) ops

structure St (ops : Array Oper) (listed : Array Bool) (R : List (Nat × Oper)) : Prop where
  size : listed.size = ops.size
  mem : ∀ k o, (k, o) ∈ R → ops[k]? = some o
  un : ∀ k, k < ops.size → (listed.getD k true = false ↔ ∃ o, (k, o) ∈ R)
  nodup : (R.map (·.1)).Nodup
  ok : okR R ops = true

theorem not_waits {listed : Array Bool} {R : List (Nat × Oper)} (hs : St ops listed R) {j : Nat} {oj : Oper} (hj : j ∈ Region.ready .any ops listed) (hoj : ops[j]? = some oj) (ks : List Nat) (hks : ∀ k ∈ ks, ∃ o, (k, o) ∈ R) : waitsFor ks oj = false := by
  obtain ⟨_, o', ho', hall⟩ := mem_ready.1 hj
  rw [hoj] at ho'; cases ho'
  rw [Bool.eq_false_iff]
  intro hc
  simp only [waitsFor, Bool.and_eq_true, List.any_eq_true, Array.mem_toList_iff] at hc
  obtain ⟨e, he, hb, k, hk, hek⟩ := hc
  have hek : e.on = k := by simpa using hek
  have h1 := hall e he hb
  obtain ⟨o, ho⟩ := hks k hk
  have hlt := (Array.getElem?_eq_some_iff.1 (hs.mem k o ho)).1
  have h2 := (hs.un k hlt).2 ⟨o, ho⟩
  rw [hek] at h1
  simp [hs.size, hlt] at h1 h2
  rw [h1] at h2; cases h2

/-- What an operation that is apart leaves as it was. -/
theorem commute {o oj : Oper} {v : Value} (hap : o.apart ops oj = true) (hso : ∀ cs b, o.op ≠ .select cs b) (hsj : ∀ cs b, oj.op ≠ .select cs b) (hdj : noDefer oj = true)
    {K : Act → World → Prop} {a : Act} {w : World}
    (h : ∀ Q', oj.wpIn (Wd r) 0 P (a.put o.dst v) w K Q') :
    ∀ Q', oj.wpIn (Wd r) 0 P a w (fun a' w' => K (a'.put o.dst v) w' ∧ execOp a'.eval o = execOp a.eval o ∧ Region.wanted o (yielded ops a'.tmps) = Region.wanted o (yielded ops a.tmps)) Q' := by
  obtain ⟨h1, h2, h3⟩ := Oper.apart_spec hap
  intro Q'
  have h := (h fun _ _ _ => False).2
  refine ⟨fun _ _ => trivial, ?_⟩
  rw [show Oper.semAt (Wd r).round _ oj = execOp _ oj from Oper.semAt_eq _ _ _ (noDefer_spec hdj)] at h ⊢
  rw [execOp_put oj hsj a o.dst v h1] at h
  have keep : ∀ u, execOp (a.put oj.dst u).eval o = execOp a.eval o := fun u => execOp_put o hso a oj.dst u h3
  have keepw : ∀ u, Region.wanted o (yielded ops (a.put oj.dst u).tmps) = Region.wanted o (yielded ops a.tmps) := fun u => wanted_put o a oj.dst u h3
  generalize (execOp a.eval oj).run P w = res at h ⊢
  cases res with
  | ok n w' =>
    cases n <;> simp only [Oper.uponIn] at h ⊢
    case value u => exact ⟨by rw [← Act.put_comm a v u h2]; exact h, keep u, keepw u⟩
    case skip => exact ⟨by rw [← Act.put_comm a v undef h2]; exact h, keep _, keepw _⟩
    case defer d =>
      refine ⟨?_, execOp_put o hso { a with defers := d :: a.defers } oj.dst undef h3, wanted_put o { a with defers := d :: a.defers } oj.dst undef h3⟩
      rw [← Act.put_comm _ v undef h2, ← Act.put_defers]
      exact h
    case enter f args =>
      refine ⟨h.1, CallsIn.mono h.2 fun e w'' he => ?_⟩
      cases e with
      | returned u => exact ⟨by rw [← Act.put_comm a v u h2]; exact he, keep u, keepw u⟩
      | panicked c => exact he.elim
      | outgrown => obtain ⟨_, _, hf⟩ := he; exact hf.elim
    case row row args => exact ⟨h.1, RowsIn.mono h.2 fun u w'' he => ⟨by rw [← Act.put_comm a v u h2]; exact he, keep u, keepw u⟩⟩
    case round l f tmps assign body =>
      refine ⟨h.1, RoundIn.mono h.2 fun e w'' he => ?_⟩
      cases e with
      | returned u => exact ⟨by rw [← Act.put_comm a v u h2]; exact he, keep u, keepw u⟩
      | panicked c => exact he.elim
      | outgrown => obtain ⟨_, _, hf⟩ := he; exact hf.elim
  | halt x w' =>
    cases x <;> simp only [Oper.uponIn] at h ⊢

theorem okR.noSelect {k : Nat} {o : Oper} {R : List (Nat × Oper)} (h : okR ((k, o) :: R) ops = true) : (∀ cs b, o.op ≠ .select cs b) ∧ noDefer o = true := by
  simp only [okR, Bool.and_eq_true] at h
  refine ⟨fun cs b e => ?_, h.1.1.2⟩
  have := h.1.2
  rw [e] at this; cases this
theorem okR.mem_ {j : Nat} {oj : Oper} {R : List (Nat × Oper)} (h : okR R ops = true) (hm : (j, oj) ∈ R) : (∀ cs b, oj.op ≠ .select cs b) ∧ noDefer oj = true := by
  induction R with
  | nil => cases hm
  | cons x R ih =>
    obtain ⟨k, o⟩ := x
    rcases List.mem_cons.1 hm with e | hm
    · injection e with e1 e2
      subst e2
      exact okR.noSelect h
    · simp only [okR, Bool.and_eq_true] at h
      exact ih h.2 hm
def without (j : Nat) (R : List (Nat × Oper)) : List (Nat × Oper) := R.filter fun x => x.1 != j

/-- An operation that may come up is brought to the front. -/
theorem Lst.front {listed : Array Bool} {j : Nat} {oj : Oper} (hoj : ops[j]? = some oj) (hj : j ∈ Region.ready .any ops listed) :
    ∀ {R : List (Nat × Oper)} {obs : Obs} {a : Act} {w : World}, (∀ k o, (k, o) ∈ R → ∃ o', (k, o') ∈ R ∧ waitsFor [k] oj = false) → (R.map (·.1)).Nodup → okR R ops = true → (j, oj) ∈ R →
      Lst P r ops Q false obs R a w → (∀ x ∈ obs, x.2 w) →
      (Region.wanted oj (yielded ops a.tmps) = true ∧ ∀ Q', oj.wpIn (Wd r) 0 P a w (fun a' w' => (∀ x ∈ left oj obs, x.2 w') ∧ Lst P r ops Q false (left oj obs) (without j R) a' w') Q') ∨
      (Region.wanted oj (yielded ops a.tmps) = false ∧ Lst P r ops Q false (left oj obs) (without j R) (a.put oj.dst undef) w)
  | [], _, _, _, _, _, _, hm, _, _ => by cases hm
  | (k, o) :: R, obs, a, w, hnw, hnd, hok, hm, h, hobs => by
    have hkw : waitsFor [k] oj = false := (hnw k o List.mem_cons_self).choose_spec.2
    rcases List.mem_cons.1 hm with e | hmR
    · -- it stands in front
      cases e
      have hwo : without j ((j, oj) :: R) = R := by
        unfold without
        rw [List.filter_cons_of_neg (by simp), List.filter_eq_self]
        intro x hx
        simp only [List.map_cons, List.nodup_cons] at hnd
        have : x.1 ≠ j := fun e => hnd.1 (e ▸ List.mem_map_of_mem hx)
        simpa using this
      rw [hwo]
      have hless : ∀ {C : World → Prop}, ∀ x ∈ left oj obs, (∀ w, x.2 w) ∨ x ∈ (j, C) :: obs := fun x hx => .inr (List.mem_cons_of_mem _ (left_sub hx))
      rcases h with ⟨v, C, hy, hC, h⟩ | ⟨hw, hd, h⟩
      · rcases hy with ⟨hw, hy⟩ | ⟨hw, rfl⟩
        · exact .inl ⟨hw, fun Q' => wpIn_of_run (noDefer_of_run (hy w hC)) (hy w hC) ⟨fun x hx => hobs x (left_sub hx), h.less hless⟩⟩
        · exact .inr ⟨hw, h.less hless⟩
      · exact .inl ⟨hw, fun Q' => Oper.wpIn_mono (fun a' w' h' => ⟨h'.1 rfl, h'.2⟩) (h Q' (by simp))⟩
    · have hok' := hok
      simp only [okR, Bool.and_eq_true] at hok'
      obtain ⟨⟨⟨⟨_, hpair⟩, _⟩, _⟩, hokR⟩ := hok'
      have hjk : j ≠ k := by
        rintro rfl
        simp only [List.map_cons, List.nodup_cons] at hnd
        exact hnd.1 (List.mem_map.2 ⟨_, hmR, rfl⟩)
      have hwo : without j ((k, o) :: R) = (k, o) :: without j R := by
        unfold without
        rw [List.filter_cons_of_pos (by simpa using Ne.symm hjk)]
      rw [hwo]
      rcases h with ⟨v, C, hy, hC, h⟩ | ⟨hw, hd, h⟩
      · -- a quiet one stands ahead of it
        have hap : o.apart ops oj = true := by
          have := List.all_eq_true.1 hpair _ hmR
          simpa [hkw] using this
        have hnw' : ∀ k' o', (k', o') ∈ R → ∃ o'', (k', o'') ∈ R ∧ waitsFor [k'] oj = false := fun k' o' hk' => ⟨o', hk', (hnw k' o' (List.mem_cons_of_mem _ hk')).choose_spec.2⟩
        have hnd' : (R.map (·.1)).Nodup := (List.nodup_cons.1 hnd).2
        have ih := Lst.front hoj hj hnw' hnd' hokR hmR h (fun x hx => by
          rcases List.mem_cons.1 hx with rfl | hx
          · exact hC
          · exact hobs x hx)
        obtain ⟨h1, h2, h3⟩ := Oper.apart_spec hap
        have hwj : Region.wanted oj (yielded ops (a.put o.dst v).tmps) = Region.wanted oj (yielded ops a.tmps) := wanted_put oj a o.dst v h1
        rw [hwj] at ih
        obtain ⟨hsj, hdj⟩ := okR.mem_ hokR hmR
        obtain ⟨hso, _⟩ := okR.noSelect hok
        rcases ih with ⟨hwt, ih⟩ | ⟨hwf, ih⟩
        · refine .inl ⟨hwt, fun Q' => Oper.wpIn_mono ?_ (commute hap hso hsj hdj ih Q')⟩
          rintro a' w' ⟨⟨hl, hL⟩, he, hwn⟩
          have hCl : C w' := hl (k, C) (List.mem_filter.2 ⟨List.mem_cons_self, by simp [hkw]⟩)
          have hcons : left oj ((k, C) :: obs) = (k, C) :: left oj obs := by unfold left; rw [List.filter_cons_of_pos (by simp [hkw])]
          rw [hcons] at hL
          refine ⟨fun x hx => hl x (List.mem_filter.2 ⟨List.mem_cons_of_mem _ (left_sub hx), (List.mem_filter.1 hx).2⟩), .inl ⟨v, C, ?_, hCl, hL⟩⟩
          rcases hy with ⟨hw, hy⟩ | ⟨hw, hv⟩
          · exact .inl ⟨by rw [hwn]; exact hw, fun w'' hw'' => by rw [he]; exact hy w'' hw''⟩
          · exact .inr ⟨by rw [hwn]; exact hw, hv⟩
        · refine .inr ⟨hwf, .inl ⟨v, C, ?_, hC, ?_⟩⟩
          · have he : execOp (a.put oj.dst undef).eval o = execOp a.eval o := execOp_put o hso a oj.dst undef h3
            have hwn : Region.wanted o (yielded ops (a.put oj.dst undef).tmps) = Region.wanted o (yielded ops a.tmps) := wanted_put o a oj.dst undef h3
            rcases hy with ⟨hw, hy⟩ | ⟨hw, hv⟩
            · exact .inl ⟨by rw [hwn]; exact hw, fun w'' hw'' => by rw [he]; exact hy w'' hw''⟩
            · exact .inr ⟨by rw [hwn]; exact hw, hv⟩
          · have hcons : left oj ((k, C) :: obs) = (k, C) :: left oj obs := by unfold left; rw [List.filter_cons_of_pos (by simp [hkw])]
            rw [hcons] at ih
            rw [← Act.put_comm a v undef h2]; exact ih
      · -- a loud one stands ahead of it: then it waits
        have := (hd rfl).1
        have hw1 := List.all_eq_true.1 this _ hmR
        simp only [waitsFor, Bool.and_eq_true, List.any_eq_true, Array.mem_toList_iff] at hw1
        obtain ⟨e, he, hb, k', hk', hek⟩ := hw1
        obtain ⟨o', ho'⟩ : ∃ o', (k', o') ∈ (k, o) :: R := by
          rcases List.mem_cons.1 hk' with rfl | hk'
          · exact ⟨o, List.mem_cons_self⟩
          · obtain ⟨x, hx, rfl⟩ := List.mem_map.1 hk'
            exact ⟨x.2, List.mem_cons_of_mem _ hx⟩
        have h0 := (hnw k' o' ho').choose_spec.2
        rw [Bool.eq_false_iff] at h0
        refine absurd ?_ h0
        simp only [waitsFor, Bool.and_eq_true, List.any_eq_true, Array.mem_toList_iff]
        exact ⟨e, he, hb, k', List.mem_cons_self, hek⟩

theorem without_mem {j : Nat} {R : List (Nat × Oper)} {x : Nat × Oper} : x ∈ without j R ↔ x ∈ R ∧ x.1 ≠ j := by
  simp [without, List.mem_filter]
theorem without_length {j : Nat} {oj : Oper} : ∀ {R : List (Nat × Oper)}, (j, oj) ∈ R → (without j R).length < R.length
  | (k, o) :: R, h => by
    unfold without
    by_cases hk : k = j
    · subst hk
      rw [List.filter_cons_of_neg (by simp)]
      exact Nat.lt_succ_of_le (List.length_filter_le _ _)
    · rw [List.filter_cons_of_pos (by simpa using hk)]
      rcases List.mem_cons.1 h with e | h
      · cases e; exact absurd rfl hk
      · exact Nat.succ_lt_succ (without_length h)
theorem okR.without {j : Nat} : ∀ {R : List (Nat × Oper)}, okR R ops = true → okR (without j R) ops = true
  | [], _ => rfl
  | (k, o) :: R, h => by
    have h' := h
    simp only [okR, Bool.and_eq_true] at h'
    obtain ⟨⟨⟨⟨ha, hp⟩, hn⟩, hs⟩, hR⟩ := h'
    have ih := okR.without (j := j) hR
    by_cases hk : k = j
    · subst hk
      show okR (List.filter _ _) ops = true
      rw [List.filter_cons_of_neg (by simp)]; exact ih
    · show okR (List.filter _ _) ops = true
      rw [List.filter_cons_of_pos (by simpa using hk)]
      show okR ((k, o) :: Sl.without j R) ops = true
      simp only [okR, Bool.and_eq_true]
      refine ⟨⟨⟨⟨?_, ?_⟩, hn⟩, hs⟩, ih⟩
      · rw [List.all_eq_true] at ha ⊢
        intro e he
        have := ha e he
        simp only [Bool.or_eq_true, Bool.and_eq_true, Bool.not_eq_true', List.any_eq_false] at this ⊢
        refine this.imp id fun ⟨h1, h2⟩ => ⟨h1, fun x hx => h2 x ?_⟩
        rcases List.mem_cons.1 hx with e | hx
        · rw [e]; exact List.mem_cons_self
        · obtain ⟨y, hy, rfl⟩ := List.mem_map.1 hx
          exact List.mem_cons_of_mem _ (List.mem_map_of_mem (without_mem.1 hy).1)
      · rw [List.all_eq_true] at hp ⊢
        exact fun x hx => hp x (without_mem.1 hx).1

theorem St.next {listed : Array Bool} {R : List (Nat × Oper)} (hs : St ops listed R) {j : Nat} (hj : j < ops.size) : St ops (listed.setIfInBounds j true) (without j R) where
  size := by simp [hs.size]
  mem := fun k o h => hs.mem k o (without_mem.1 h).1
  un := fun k hk => by
    by_cases hjk : j = k
    · subst hjk
      have hl : j < listed.size := by rw [hs.size]; exact hj
      simp only [without_mem]
      simp [hl]
    · rw [getD_set_ne true hjk, hs.un k hk]
      constructor
      · rintro ⟨o, ho⟩; exact ⟨o, without_mem.2 ⟨ho, Ne.symm hjk⟩⟩
      · rintro ⟨o, ho⟩; exact ⟨o, (without_mem.1 ho).1⟩
  nodup := List.Nodup.sublist (List.filter_sublist.map _) hs.nodup
  ok := okR.without hs.ok

theorem Lst.any : ∀ (fuel : Nat) {R : List (Nat × Oper)} {listed : Array Bool} {a : Act} {w : World}, St ops listed R → R.length ≤ fuel → Lst P r ops Q false [] R a w → wpAnyIn (Wd r) 0 P .any ops Q fuel listed a w := by
  have hready : ∀ {R : List (Nat × Oper)} {listed : Array Bool}, St ops listed R → ∀ j ∈ Region.ready .any ops listed, ∃ oj, ops[j]? = some oj ∧ (j, oj) ∈ R := fun hs j hj => by
    obtain ⟨h0, oj, hoj, _⟩ := mem_ready.1 hj
    have hlt := (Array.getElem?_eq_some_iff.1 hoj).1
    obtain ⟨o', ho'⟩ := (hs.un j hlt).1 h0
    have := hs.mem j o' ho'
    rw [hoj] at this; cases this
    exact ⟨oj, hoj, ho'⟩
  have hhead : ∀ {R : List (Nat × Oper)} {listed : Array Bool} {k : Nat} {o : Oper}, St ops listed ((k, o) :: R) → k ∈ Region.ready .any ops listed := fun {R listed k o} hs => by
    have hlt := (Array.getElem?_eq_some_iff.1 (hs.mem k o List.mem_cons_self)).1
    refine mem_ready.2 ⟨(hs.un k hlt).2 ⟨o, List.mem_cons_self⟩, o, hs.mem k o List.mem_cons_self, fun e he hb => ?_⟩
    have hok := hs.ok
    simp only [okR, Bool.and_eq_true] at hok
    have := List.all_eq_true.1 hok.1.1.1.1 e (Array.mem_toList_iff.2 he)
    rw [hb] at this
    simp only [Bool.not_true, Bool.false_or, Bool.and_eq_true, Bool.not_eq_true', List.any_eq_false] at this
    obtain ⟨h1, h2⟩ := this
    have h1 : e.on < ops.size := by simpa using h1
    cases hl : listed.getD e.on true with
    | true => have : e.on < listed.size := by rw [hs.size]; exact h1
              simp [this] at hl ⊢; exact hl
    | false =>
      obtain ⟨o', ho'⟩ := (hs.un _ h1).1 hl
      exact absurd (by simp) (h2 e.on (show e.on ∈ ((k, o) :: R).map (·.1) from List.mem_map_of_mem ho'))
  intro fuel
  induction fuel with
  | zero =>
    intro R listed a w hs hl h
    have : R = [] := List.eq_nil_of_length_eq_zero (by omega)
    subst this
    refine ⟨List.eq_nil_iff_forall_not_mem.2 fun j hj => ?_, h⟩
    obtain ⟨oj, _, hm⟩ := hready hs j hj
    cases hm
  | succ fuel ih =>
    intro R listed a w hs hl h
    refine ⟨fun he => ?_, fun j hj => ?_⟩
    · cases R with
      | nil => exact h
      | cons x R =>
        obtain ⟨k, o⟩ := x
        have := hhead hs
        rw [he] at this; cases this
    · obtain ⟨oj, hoj, hm⟩ := hready hs j hj
      have hlt := (Array.getElem?_eq_some_iff.1 hoj).1
      have hf := Lst.front hoj hj (fun k o hk => ⟨o, hk, not_waits hs hj hoj [k] (fun k' hk' => by simp at hk'; subst hk'; exact ⟨o, hk⟩)⟩) hs.nodup hs.ok hm h (by simp)
      have hlen := without_length hm
      unfold wpOpIn
      simp only [hoj]
      rcases hf with ⟨hw, hf⟩ | ⟨hw, hf⟩
      · rw [if_pos hw]
        exact Oper.wpIn_mono (fun a' w' h' => ih (hs.next hlt) (by omega) h'.2) (hf Q)
      · rw [if_neg (by simp [hw])]
        exact ⟨fun _ _ => trivial, ih (hs.next hlt) (by omega) hf⟩

theorem distinct_nodup : ∀ {l : List Nat}, distinct l = true → l.Nodup
  | [], _ => List.nodup_nil
  | i :: l, h => by
    simp only [distinct, Bool.and_eq_true, List.all_eq_true, Bool.not_eq_true'] at h
    refine List.nodup_cons.2 ⟨fun hm => ?_, distinct_nodup h.2⟩
    have := h.1 i hm
    simp at this
theorem sel_map : ∀ (l : List Nat), (sel ops l).map (·.1) = l
  | [] => rfl
  | k :: l => by simp [sel, sel_map l]
theorem sel_mem {k : Nat} {o : Oper} {l : List Nat} (h : (k, o) ∈ sel ops l) : k ∈ l ∧ o = ops.getD k default := by
  induction l with
  | nil => cases h
  | cons i l ih =>
    rcases List.mem_cons.1 h with e | h
    · injection e with e1 e2
      subst e1; subst e2
      exact ⟨List.mem_cons_self, rfl⟩
    · exact ⟨List.mem_cons_of_mem _ (ih h).1, (ih h).2⟩
theorem mem_sel : ∀ {l : List Nat} {k : Nat}, k ∈ l → (k, ops.getD k default) ∈ sel ops l
  | i :: l, k, h => by
    rcases List.mem_cons.1 h with e | h
    · subst e; exact List.mem_cons_self
    · exact List.mem_cons_of_mem _ (mem_sel h)
theorem St.start {pi : List Nat} (h : okPi ops pi = true) : St ops (Array.replicate ops.size false) (sel ops pi) := by
  simp only [okPi, Bool.and_eq_true, List.all_eq_true] at h
  obtain ⟨⟨⟨⟨hl, hd⟩, hr⟩, hlt⟩, ho⟩ := h
  refine ⟨by simp, fun k o hk => ?_, fun k hk => ?_, by rw [sel_map]; exact distinct_nodup hd, ho⟩
  · obtain ⟨h1, rfl⟩ := sel_mem hk
    have h2 := hlt k h1
    have : k < ops.size := by simpa using h2
    simp [this]
  · have := hr k (List.mem_range.2 hk)
    simp only [List.any_eq_true] at this
    obtain ⟨x, hx, e⟩ := this
    have e : k = x := by simpa using e
    subst e
    simp only [Array.getD_eq_getD_getElem?, Array.getElem?_replicate, hk, if_true, Option.getD_some, true_iff]
    exact ⟨_, mem_sel hx⟩
end

/-! ### What is still to do -/
inductive It where
  | code (c : Code)
  | blk (id : Nat)
  | ops (det : Bool) (ops : Array Oper) (obs : Obs) (R : List (Nat × Oper))
  | goal (K : Act → World → Prop)
abbrev Po := Exit → Act → World → Prop
/-- What must hold once the head is left so. -/
def post (P : Program) (r : Option Nat) (Q : Po) : List It → Po
  | [], e, a, w => Q e a w
  | .code c :: k, .normal, a, w => c.wpIn (Wd r) 0 P (post P r Q k) a w
  | .blk _ :: k, .normal, a, w => post P r Q k .normal a w
  | .ops det ops obs R :: k, .normal, a, w => Lst P r ops (post P r Q k) det obs R a w
  | .goal K :: _, .normal, a, w => K a w
  | .blk id :: k, .exit id', a, w => if id' = id then post P r Q k .normal a w else post P r Q k (.exit id') a w
  | _ :: k, e, a, w => post P r Q k e a w
structure Cx where
  P : Program
  r : Option Nat
  n : Nat
  Q : Po
/-- With this still to do, from these slots and this world, all ends well. -/
def MC (X : Cx) (ds : List Deferred) (k : List It) (fr : Fr) (w : World) : Prop := ∀ a, Fits X.n ds fr a → post X.P X.r X.Q k .normal a w
section
variable {X : Cx} {P : Program} {r : Option Nat} {Q : Po} {ds : List Deferred} {k : List It} {fr fr' : Fr} {w : World}
theorem post_ret (k : List It) (a : Act) (w : World) : post P r Q k .ret a w = Q .ret a w := by
  induction k with
  | nil => rfl
  | cons x k ih => cases x <;> simpa [post] using ih
theorem post_code_then (c : Code) (k : List It) : post P r Q (.code c :: k) = Exit.then (c.wpIn (Wd r) 0 P (post P r Q k)) (post P r Q k) := by
  funext e a w; cases e <;> rfl
theorem post_blk (id : Nat) (k : List It) : post P r Q (.blk id :: k) = Exit.inBlock id (post P r Q k) := by
  funext e a w; cases e <;> rfl
theorem post_goal (K : Act → World → Prop) (k : List It) : post P r Q (.goal K :: k) = Exit.then K (post P r Q k) := by
  funext e a w; cases e <;> rfl
theorem MC.sub (hs : Sub fr fr') (h : MC X ds k fr' w) : MC X ds k fr w := fun a hf => h a (hf.sub hs)
theorem MC.keep (h : incl fr fr') (hk : MC X ds k fr' w) : MC X ds k fr w := MC.sub h.sub hk
theorem MC.seq {x y : Code} (h : MC X ds (.code x :: .code y :: k) fr w) : MC X ds (.code (.seq x y) :: k) fr w := fun a hf => by
  have := h a hf
  simp only [post] at this ⊢
  exact wpIn_seq (by rw [← post_code_then]; exact this)
theorem MC.skip (h : MC X ds k fr w) : MC X ds (.code .skip :: k) fr w := fun a hf => wpIn_skip (h a hf)
theorem MC.label {l : Nat} (h : MC X ds k fr w) : MC X ds (.code (.label l) :: k) fr w := fun a hf => wpIn_label (h a hf)
theorem MC.block {id : Nat} {c : Code} (h : MC X ds (.code c :: .blk id :: k) fr w) : MC X ds (.code (.block id c) :: k) fr w := fun a hf => by
  have := h a hf
  simp only [post] at this ⊢
  exact wpIn_block (by rw [← post_blk]; exact this)
theorem MC.blk {id : Nat} (h : MC X ds k fr w) : MC X ds (.blk id :: k) fr w := fun a hf => h a hf
/-- What stands behind a block. -/
def popTo (id : Nat) : List It → Option (List It)
  | [] => none
  | .blk i :: k => bif Nat.beq i id then some k else popTo id k
  | _ :: k => popTo id k
theorem post_exit {id : Nat} : ∀ {k k' : List It} {a : Act} {w : World}, popTo id k = some k' → post P r Q k' .normal a w → post P r Q k (.exit id) a w
  | .blk i :: k, k', a, w, h, hp => by
    simp only [popTo] at h
    cases hb : Nat.beq i id with
    | true =>
      rw [hb] at h; simp at h; subst h
      have : i = id := by simpa using hb
      simp [post, this, hp]
    | false =>
      rw [hb] at h
      have : id ≠ i := by rintro rfl; simp at hb
      simp only [post, this, if_false]
      exact post_exit h hp
  | .code _ :: k, k', a, w, h, hp => post_exit (k := k) h hp
  | .ops .. :: k, k', a, w, h, hp => post_exit (k := k) h hp
  | .goal _ :: k, k', a, w, h, hp => post_exit (k := k) h hp
theorem MC.exit {id : Nat} {k' : List It} (hp : popTo id k = some k') (h : MC X ds k' fr w) : MC X ds (.code (.exit id) :: k) fr w := fun a hf => wpIn_exit (post_exit hp (h a hf))
theorem MC.cond_lit {c : Operand} {x y : Code} {b : Bool} (hc : ev fr c = some (.bool b)) (h : MC X ds (.code (bif b then x else y) :: k) fr w) : MC X ds (.code (.cond c x y) :: k) fr w := fun a hf =>
  wpIn_cond (hf.ev hc) (by have := h a hf; cases b <;> exact this)
theorem MC.condB {c : Operand} {x y : Code} {b : Bool} (hc : ev fr c = some (.bool b)) (ht : b = true → MC X ds (.code x :: k) fr w) (hf : b = false → MC X ds (.code y :: k) fr w) : MC X ds (.code (.cond c x y) :: k) fr w :=
  MC.cond_lit hc (by cases b; exact hf rfl; exact ht rfl)
theorem MC.cond {c : Operand} {x y : Code} {p : Prop} [Decidable p] (hc : ev fr c = some (.bool (decide p))) (ht : p → MC X ds (.code x :: k) fr w) (hf : ¬ p → MC X ds (.code y :: k) fr w) : MC X ds (.code (.cond c x y) :: k) fr w :=
  MC.condB hc (fun h => ht (by simpa using h)) (fun h => hf (by simpa using h))
theorem MC.condN {c : Operand} {x y : Code} {p : Prop} [Decidable p] (hc : ev fr c = some (.bool (!decide p))) (ht : ¬ p → MC X ds (.code x :: k) fr w) (hf : p → MC X ds (.code y :: k) fr w) : MC X ds (.code (.cond c x y) :: k) fr w :=
  MC.condB hc (fun h => ht (by simpa using h)) (fun h => hf (by simpa using h))
theorem MC.region {id : Nat} {o : Array Oper} (h : MC X ds (.ops true o [] (num 0 o.toList) :: k) fr w) : MC X ds (.code (.region id o false) :: k) fr w := fun a hf =>
  wpIn_region_list (by have := Lst.det_list (h a hf); rwa [num_map] at this)
class Mixed (P : Program) : Prop where
  h : P.follows .mixedOrders = true
/-- A region that draws its order: 'pi': an order in which what is quiet stands ahead of what is not and does not wait for it. -/
theorem MC.draw [Mixed X.P] {id : Nat} {ops : Array Oper} {l : List Assn} (hs : Sat l w) (pi : List Nat) (hpi : okPi ops pi = true) (h : ∀ w', Sat l w' → MC X ds (.ops false ops [] (sel ops pi) :: k) fr w') : MC X ds (.code (.region id ops true) :: k) fr w := fun a hf =>
  wpIn_region_any Mixed.h (Lst.any _ (St.start hpi) (by
    have : (sel ops pi).length = pi.length := by rw [← List.length_map (·.1), sel_map]
    simp only [okPi, Bool.and_eq_true] at hpi
    have h2 : pi.length = ops.size := by simpa using hpi.1.1.1.1
    omega) (h { w with drawn := w.drawn + 1 } (hs.of_heap rfl rfl) a hf))
theorem MC.opsEnd {det : Bool} {ops : Array Oper} {obs : Obs} (h : MC X ds k fr w) : MC X ds (.ops det ops obs [] :: k) fr w := fun a hf => h a hf

section ops
variable {det : Bool} {ops : Array Oper} {obs : Obs} {R : List (Nat × Oper)} {i : Nat} {d : Option Tmp} {op : Op} {ty : TypeId} {pos : String} {aft : Array Edge}
/-- A guard that is met. -/
theorem MC.want {j : Nat} {b : Bool} (hw : wants ops fr ⟨d, op, ty, pos, aft, some (j, b)⟩ = some true) (h : MC X ds (.ops det ops obs ((i, ⟨d, op, ty, pos, aft, none⟩) :: R) :: k) fr w) :
    MC X ds (.ops det ops obs ((i, ⟨d, op, ty, pos, aft, some (j, b)⟩) :: R) :: k) fr w := fun a hf => by
  have hwt := wants_spec hw hf
  rcases h a hf with ⟨v, C, hy, hC, h⟩ | ⟨hw', hd, h⟩
  · refine .inl ⟨v, C, ?_, hC, h⟩
    rcases hy with ⟨_, hy⟩ | ⟨hn, _⟩
    · exact .inl ⟨hwt, hy⟩
    · simp [Region.wanted] at hn
  · exact .inr ⟨hwt, hd, h⟩
/-- A guard that is not. -/
theorem MC.pass {j : Nat} {b : Bool} (hw : wants ops fr ⟨d, op, ty, pos, aft, some (j, b)⟩ = some false) (hd : okD X.n d = true) (h : MC X ds (.ops det ops obs R :: k) (setD d true undef fr) w) :
    MC X ds (.ops det ops obs ((i, ⟨d, op, ty, pos, aft, some (j, b)⟩) :: R) :: k) fr w := fun a hf =>
  .inl ⟨undef, fun _ => True, .inr ⟨wants_spec hw hf, rfl⟩, trivial, (h _ (hf.setD hd true undef)).less (by
    intro x hx
    rcases List.mem_cons.1 hx with rfl | hx
    · exact .inl fun _ => trivial
    · exact .inr hx)⟩
/-- The slot that a guard looks at. -/
def gslot (ops : Array Oper) (o : Oper) : Option Tmp := o.guard.bind fun g => (ops[g.1]?).bind (·.dst)
/-- A slot that holds an open Bool: both ways. -/
theorem MC.splitB {t : Nat} {b : Bool} (hv : lk fr t = some (.bool b)) (ht : b = true → MC X ds k ((t, true, .bool true) :: fr) w) (hf : b = false → MC X ds k ((t, true, .bool false) :: fr) w) : MC X ds k fr w := fun a hfit => by
  have key : Fits X.n ds ((t, true, .bool b) :: fr) a := ⟨hfit.size, hfit.defers, fun t' v e => by
    simp only [lk] at e
    cases he : Nat.beq t t' with
    | true => rw [he] at e; have : t = t' := by simpa using he
              subst this; simp at e; subst e; exact hfit.slot t _ hv
    | false => rw [he] at e; exact hfit.slot t' v e⟩
  cases b
  · exact hf rfl a key
  · exact ht rfl a key
theorem MC.part {j : Nat} {gb : Bool} {t : Nat} (hg : gslot ops ⟨d, op, ty, pos, aft, some (j, gb)⟩ = some t) {p : Prop} [Decidable p] (hv : lk fr t = some (.bool (decide p)))
    (ht : p → MC X ds (.ops det ops obs ((i, ⟨d, op, ty, pos, aft, some (j, gb)⟩) :: R) :: k) ((t, true, .bool true) :: fr) w) (hf : ¬ p → MC X ds (.ops det ops obs ((i, ⟨d, op, ty, pos, aft, some (j, gb)⟩) :: R) :: k) ((t, true, .bool false) :: fr) w) :
    MC X ds (.ops det ops obs ((i, ⟨d, op, ty, pos, aft, some (j, gb)⟩) :: R) :: k) fr w :=
  MC.splitB hv (fun h => ht (by simpa using h)) (fun h => hf (by simpa using h))
theorem MC.partN {j : Nat} {gb : Bool} {t : Nat} (hg : gslot ops ⟨d, op, ty, pos, aft, some (j, gb)⟩ = some t) {p : Prop} [Decidable p] (hv : lk fr t = some (.bool (!decide p)))
    (ht : ¬ p → MC X ds (.ops det ops obs ((i, ⟨d, op, ty, pos, aft, some (j, gb)⟩) :: R) :: k) ((t, true, .bool true) :: fr) w) (hf : p → MC X ds (.ops det ops obs ((i, ⟨d, op, ty, pos, aft, some (j, gb)⟩) :: R) :: k) ((t, true, .bool false) :: fr) w) :
    MC X ds (.ops det ops obs ((i, ⟨d, op, ty, pos, aft, some (j, gb)⟩) :: R) :: k) fr w :=
  MC.splitB hv (fun h => ht (by simpa using h)) (fun h => hf (by simpa using h))
theorem MC.partB {j : Nat} {gb : Bool} {t : Nat} (hg : gslot ops ⟨d, op, ty, pos, aft, some (j, gb)⟩ = some t) {b : Bool} (hv : lk fr t = some (.bool b))
    (ht : b = true → MC X ds (.ops det ops obs ((i, ⟨d, op, ty, pos, aft, some (j, gb)⟩) :: R) :: k) ((t, true, .bool true) :: fr) w) (hf : b = false → MC X ds (.ops det ops obs ((i, ⟨d, op, ty, pos, aft, some (j, gb)⟩) :: R) :: k) ((t, true, .bool false) :: fr) w) :
    MC X ds (.ops det ops obs ((i, ⟨d, op, ty, pos, aft, some (j, gb)⟩) :: R) :: k) fr w :=
  MC.splitB hv ht hf
/-- An operation that only reckons. -/
theorem MC.pure {v : Value} {f : Bool} (h : Pure X.P ⟨d, op, ty, pos, aft, none⟩ fr v) (hd : okD X.n d = true) (hk : MC X ds (.ops det ops obs R :: k) (setD d f v fr) w) : MC X ds (.ops det ops obs ((i, ⟨d, op, ty, pos, aft, none⟩) :: R) :: k) fr w := fun a hf =>
  .inl ⟨v, fun _ => True, .inl ⟨rfl, fun w _ => h X.n ds a hf w⟩, trivial, (hk _ (hf.setD hd f v)).less (by
    intro x hx
    rcases List.mem_cons.1 hx with rfl | hx
    · exact .inl fun _ => trivial
    · exact .inr hx)⟩
/-- What an operation that looks comes to, at a world. -/
def LooksAt (P : Program) (o : Oper) (fr : Fr) (w : World) (C : World → Prop) (v : Value) : Prop := Looks P o fr C v ∧ C w
/-- One that looks at memory: in a region whose order is told. -/
theorem MC.la {v : Value} {C : World → Prop} (f : Bool) (h : LooksAt X.P ⟨d, op, ty, pos, aft, none⟩ fr w C v) (hd : okD X.n d = true) (hk : MC X ds (.ops true ops [] R :: k) (setD d f v fr) w) :
    MC X ds (.ops true ops [] ((i, ⟨d, op, ty, pos, aft, none⟩) :: R) :: k) fr w := fun a hf => by
  refine .inr ⟨rfl, by simp, fun Q' hQ' => ?_⟩
  cases hQ' rfl
  exact wpIn_of_run (noDefer_of_run (h.1 X.n ds a hf w h.2)) (h.1 X.n ds a hf w h.2) ⟨by simp, hk _ (hf.setD hd f v)⟩
/-- And in one that is drawn. -/
theorem MC.laD {v : Value} {C : World → Prop} (f : Bool) (h : LooksAt X.P ⟨d, op, ty, pos, aft, none⟩ fr w C v) (hd : okD X.n d = true) (hk : MC X ds (.ops false ops ((i, C) :: obs) R :: k) (setD d f v fr) w) :
    MC X ds (.ops false ops obs ((i, ⟨d, op, ty, pos, aft, none⟩) :: R) :: k) fr w := fun a hf =>
  .inl ⟨v, C, .inl ⟨rfl, h.1 X.n ds a hf⟩, h.2, hk _ (hf.setD hd f v)⟩
/-- One that does more. -/
theorem MC.does {Post : Value → World → Prop} (f : Bool) (h : Does X.P X.r ⟨d, op, ty, pos, aft, none⟩ fr w Post) (hd : okD X.n d = true) (hk : ∀ v w', Post v w' → MC X ds (.ops true ops [] R :: k) (setD d f v fr) w') :
    MC X ds (.ops true ops [] ((i, ⟨d, op, ty, pos, aft, none⟩) :: R) :: k) fr w := fun a hf => by
  refine .inr ⟨rfl, by simp, fun Q' _ => h X.n ds a hf _ _ fun v w' hp => ⟨by simp, hk v w' hp _ (hf.setD hd f v)⟩⟩
/-- What was looked at still holds. -/
def Holds : Obs → World → Prop
  | [], _ => True
  | x :: r, w => x.2 w ∧ Holds r w
theorem Holds.all : ∀ {obs : Obs} {w : World}, Holds obs w → ∀ x ∈ obs, x.2 w
  | _ :: _, _, h, x, hx => by
    rcases List.mem_cons.1 hx with rfl | hx
    · exact h.1
    · exact Holds.all h.2 x hx
/-- All that was looked at stays as it was. -/
theorem MC.doesK {Post : Value → World → Prop} (f : Bool) (h : Does X.P X.r ⟨d, op, ty, pos, aft, none⟩ fr w Post) (hd : okD X.n d = true) (hwait : allWait i R = true) (hnd : noDefer ⟨d, op, ty, pos, aft, none⟩ = true)
    (hk : ∀ v w', Post v w' → Holds obs w' ∧ MC X ds (.ops false ops obs R :: k) (setD d f v fr) w') :
    MC X ds (.ops false ops obs ((i, ⟨d, op, ty, pos, aft, none⟩) :: R) :: k) fr w := fun a hf => by
  refine .inr ⟨rfl, fun _ => ⟨hwait, hnd⟩, fun Q' _ => h X.n ds a hf _ _ fun v w' hp => ⟨fun _ x hx => (hk v w' hp).1.all x (left_sub hx), ((hk v w' hp).2 _ (hf.setD hd f v)).less fun x hx => .inr (left_sub hx)⟩⟩
/-- It waits for all that looked. -/
theorem MC.doesD {Post : Value → World → Prop} (f : Bool) (h : Does X.P X.r ⟨d, op, ty, pos, aft, none⟩ fr w Post) (hd : okD X.n d = true) (hwait : allWait i R = true) (hnd : noDefer ⟨d, op, ty, pos, aft, none⟩ = true)
    (hall : (obs.map (·.1)).all (fun j => waitsFor [j] ⟨d, op, ty, pos, aft, none⟩) = true)
    (hk : ∀ v w', Post v w' → MC X ds (.ops false ops [] R :: k) (setD d f v fr) w') :
    MC X ds (.ops false ops obs ((i, ⟨d, op, ty, pos, aft, none⟩) :: R) :: k) fr w := fun a hf => by
  have hl : left ⟨d, op, ty, pos, aft, none⟩ obs = [] := by
    unfold left
    rw [List.filter_eq_nil_iff]
    intro x hx
    have := List.all_eq_true.1 hall x.1 (List.mem_map_of_mem hx)
    simp [this]
  refine .inr ⟨rfl, fun _ => ⟨hwait, hnd⟩, fun Q' _ => h X.n ds a hf _ _ fun v w' hp => ?_⟩
  rw [hl]
  exact ⟨by simp, hk v w' hp _ (hf.setD hd f v)⟩
end ops

theorem least {p : Nat → Prop} (h : ∃ n, p n) : ∃ n, p n ∧ ∀ m, p m → n ≤ m := by
  obtain ⟨n, hn⟩ := h
  induction n using Nat.strongRecOn with
  | _ n ih =>
    by_cases hx : ∃ m, m < n ∧ p m
    · obtain ⟨m, hm, hp⟩ := hx; exact ih m hm hp
    · exact ⟨n, hn, fun m hm => Nat.le_of_not_lt fun hlt => hx ⟨m, hlt, hm⟩⟩
/-- A round's end. -/
def Again {σ : Type} (n : Nat) (ds : List Deferred) (F : σ → Fr) (I : σ → World → Prop) (μ : σ → Nat) (m : Nat) (a : Act) (w : World) : Prop := ∃ s', Fits n ds (F s') a ∧ I s' w ∧ μ s' < m
/-- A loop: at each round's head the slots are as 'F s' tells, for some s of which I holds; a measure goes down. -/
theorem MC.loop {σ : Type} {c : Code} (F : σ → Fr) (I : σ → World → Prop) (μ : σ → Nat) (s0 : σ) (hF : incl fr (F s0)) (h0 : I s0 w)
    (hr : ∀ s w, I s w → MC X ds (.code c :: .goal (Again X.n ds F I μ (μ s)) :: k) (F s) w) : MC X ds (.code (.loop c) :: k) fr w := fun a hf => by
  classical
  let p : Act → World → Nat → Prop := fun a' w' m => ∃ s, Fits X.n ds (F s) a' ∧ I s w' ∧ μ s = m
  let ν : Act → World → Nat := fun a' w' => if h : ∃ m, p a' w' m then Classical.choose (least h) else 0
  have hν : ∀ a' w', (∃ m, p a' w' m) → p a' w' (ν a' w') ∧ ∀ m, p a' w' m → ν a' w' ≤ m := fun a' w' h => by
    have := Classical.choose_spec (least h)
    simp only [ν, dif_pos h]
    exact this
  refine wpIn_loop (fun a' w' => ∃ m, p a' w' m) ν ⟨_, s0, hf.sub hF.sub, h0, rfl⟩ ?_
  intro a1 w1 hex
  obtain ⟨⟨s', h1, h2, h3⟩, _⟩ := hν a1 w1 hex
  have := hr s' w1 h2 a1 h1
  simp only [post] at this
  rw [post_goal] at this
  refine wpIn_mono this ?_
  rintro e a2 w2 hq
  cases e with
  | normal =>
    obtain ⟨s2, g1, g2, g3⟩ := hq
    refine ⟨⟨_, s2, g1, g2, rfl⟩, ?_⟩
    have := (hν a2 w2 ⟨_, s2, g1, g2, rfl⟩).2 _ ⟨s2, g1, g2, rfl⟩
    omega
  | _ => exact hq
theorem MC.again {σ : Type} {F : σ → Fr} {I : σ → World → Prop} {μ : σ → Nat} {m : Nat} (s' : σ) (hF : incl fr (F s')) (hI : I s' w) (hm : μ s' < m) :
    MC X ds (.goal (Again X.n ds F I μ m) :: k) fr w := fun _ hf => ⟨s', hf.sub hF.sub, hI, hm⟩
/-- A point that several ways lead to: what holds there is proved once. -/
theorem MC.cut (fr' : Fr) (I : World → Prop) (c d : Code) (h2 : ∀ w', I w' → MC X ds (.code d :: k) fr' w') (h1 : MC X ds (.code c :: .goal (fun a' w' => Fits X.n ds fr' a' ∧ I w') :: .code d :: k) fr w) : MC X ds (.code (.seq c d) :: k) fr w := fun a hf => by
  have := h1 a hf
  simp only [post] at this ⊢
  refine wpIn_seq (wpIn_mono this ?_)
  rintro e a' w' hq
  cases e with
  | normal => exact h2 w' hq.2 a' hq.1
  | _ => exact hq
theorem MC.meet {fr' : Fr} {I : World → Prop} (hF : incl fr fr') (hI : I w) : MC X ds (.goal (fun a' w' => Fits X.n ds fr' a' ∧ I w') :: k) fr w := fun _ hf => ⟨hf.sub hF.sub, hI⟩
end

/-! ### Calls -/
/-- A call returns, and of what it returns, and of the world behind it, Post holds. -/
def Ret (P : Program) (f : FuncId) (args : List Value) (w : World) (Post : Value → World → Prop) : Prop := Calls P f args.toArray w fun e w' => ∃ v, e = .returned v ∧ Post v w'
theorem Ret.mono {P : Program} {f : FuncId} {args : List Value} {w : World} {Post Post' : Value → World → Prop} (h : Ret P f args w Post) (hp : ∀ v w', Post v w' → Post' v w') : Ret P f args w Post' :=
  Calls.mono h fun _ w' ⟨v, he, hv⟩ => ⟨v, he, hp v w' hv⟩
def frOf : Nat → List (Bool × Value) → Fr
  | _, [] => []
  | k, v :: r => (k, v) :: frOf (k + 1) r
theorem lk_frOf : ∀ {l : List (Bool × Value)} {k t : Nat} {v : Value}, lk (frOf k l) t = some v → k ≤ t ∧ (l.map (·.2))[t - k]? = some v
  | [], _, _, _, e => by cases e
  | u :: l, k, t, v, e => by
    simp only [frOf, lk] at e
    cases hb : Nat.beq k t with
    | true => rw [hb] at e; have : k = t := by simpa using hb
              subst this; simp at e; subst e; simp
    | false =>
      rw [hb] at e
      obtain ⟨h1, h2⟩ := lk_frOf e
      refine ⟨by omega, ?_⟩
      have : t - k = (t - (k + 1)) + 1 := by omega
      rw [this]; simpa using h2
/-- 'args': each with its mark. -/
theorem Ret.enter {P : Program} {f : FuncId} {fn : Func} {c : Code} {w : World} {Post : Value → World → Prop} (args : List (Bool × Value)) (n : Nat) (hf : P.funcs[f]? = some fn) (hb : fn.body = some c) (hn : fn.ntmps = n) (hargs : Nat.ble args.length n = true)
    (h : MC ⟨P, none, n, bodyPost P fn fun e w' => ∃ v, e = .returned v ∧ Post v w'⟩ [] [.code c] (frOf 0 args) w) : Ret P f (args.map (·.2)) w Post := by
  refine (callsIn_wd (r := none) (n := 0)).1 (callsIn_of_wp hf hb trivial (h _ ⟨?_, rfl, fun t v e => ?_⟩) rfl)
  · have : args.length ≤ n := by simpa using hargs
    subst hn; simp; omega
  · obtain ⟨_, h2⟩ := lk_frOf e
    have h2 : (args.map (·.2))[t]? = some v := by simpa using h2
    have hlt : t < (args.map (·.2)).length := by
      rcases Nat.lt_or_ge t (args.map (·.2)).length with h' | h'
      · exact h'
      · rw [List.getElem?_eq_none h'] at h2; cases h2
    rw [Array.getElem?_append_left (by simpa using hlt)]
    simpa using h2
/-- What the slots of results hold. -/
def resOf (fr : Fr) : List ResultVar → Option (List Value)
  | [] => some []
  | .tmp t :: r => match lk fr t, resOf fr r with
    | some v, some vs => some (v :: vs)
    | _, _ => none
  | _ :: _ => none
def tup : List Value → Value
  | [v] => v
  | l => .tuple l.toArray
theorem run_results {P : Program} {fn : Func} {fr : Fr} {n : Nat} {ds : List Deferred} {a : Act} {vs : List Value} (hf : Fits n ds fr a) (hr : resOf fr fn.results.toList = some vs) (w : World) : (results fn a.tmps).run P w = .ok (tup vs) w := by
  have key : ∀ (f : ResultVar → Sem Value), (∀ t, f (.tmp t) = pure (a.tmps.getD t undef)) → ∀ (l : List ResultVar) (vs : List Value), resOf fr l = some vs → ∀ w, ((l.mapM f : Sem (List Value))).run P w = .ok vs w := by
    intro f hfm l
    induction l with
    | nil => intro vs h w; simp [resOf] at h; subst h; simp
    | cons x l ih =>
      intro vs h w
      cases x with
      | cell a' t => simp [resOf] at h
      | tmp t =>
        simp only [resOf] at h
        split at h
        · rename_i v vs' h1 h2
          cases h
          have := ih vs' h2 w
          simp only [List.mapM_cons, hfm]
          rw [Sem.run_bind]
          simp only [Sem.run_pure, Result.andThen_ok, Sem.run_bind]
          rw [this]
          simp [hf.slot t v h1, Array.getD_eq_getD_getElem?]
        · cases h
  unfold results
  rw [Array.mapM_eq_mapM_toList]
  simp only [Sem.run_bind]
  simp only [map_eq_pure_bind, Sem.run_bind]
  rw [key _ (fun t => rfl) _ _ hr w]
  simp only [Result.andThen_ok, Sem.run_pure]
  match vs with
  | [] => rfl
  | [v] => rfl
  | v :: u :: vs => simp [tup]
section
variable {P : Program} {n : Nat} {fr : Fr} {w : World} {fn : Func} {Post : Value → World → Prop} {k : List It}
theorem MC.ret {vs : List Value} (hr : resOf fr fn.results.toList = some vs) (h : Post (tup vs) w) : MC ⟨P, none, n, bodyPost P fn fun e w' => ∃ v, e = .returned v ∧ Post v w'⟩ [] (.code .ret :: k) fr w := fun _ hf =>
  wpIn_ret (by rw [post_ret]; exact ⟨hf.defers, _, run_results hf hr w, _, rfl, h⟩)
theorem MC.end_ {vs : List Value} (hr : resOf fr fn.results.toList = some vs) (h : Post (tup vs) w) : MC ⟨P, none, n, bodyPost P fn fun e w' => ∃ v, e = .returned v ∧ Post v w'⟩ [] [] fr w := fun _ hf =>
  ⟨hf.defers, _, run_results hf hr w, _, rfl, h⟩
end
end Go.Sl
