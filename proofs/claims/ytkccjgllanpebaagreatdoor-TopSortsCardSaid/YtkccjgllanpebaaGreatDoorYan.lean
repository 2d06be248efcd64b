/-
  The device: what a pointer to one says of the heap; its small functions | Code with labels in it to which nothing jumps | Texts: ranges over them; what a contract of the library says | Deferred calls of functions; results that lie in cells | Setting a key is not refused where there is room | A slice of bools, and one of bytes, as a row hands them in: a list that is read
-/
import Derived.Test.YtkccjgllanpebaaGreatDoorYal
import Derived.Test.YtkccjgllanpebaaGreatDoorYam
import Derived.Test.YtkccjgllanpebaaGreatDoorYak
import Derived.Below
import Derived.Lib.ValidLaws
import Derived.Deep.Grids
set_option linter.unusedVariables false
set_option linter.unusedSimpArgs false
namespace Go.Proofs.YtkccjgllanpebaaGreatDoor
open Go Go.Sl
attribute [local irreducible] LooksAt
abbrev ptr (p : Nat) : Value := .pointer (some ⟨p, 0, none⟩)
abbrev int (n : Int) : Value := .int .i64 n
abbrev bool (b : Bool) : Value := .bool b

structure Dev where
  S : List (List UInt8)
  O : List (Nat × List UInt8)
  reads : Int
  fuse : Int
structure Dev.ok (D : Dev) : Prop where
  pos : 0 < D.S.length
  few : D.S.length ≤ 8192
  sec : ∀ s ∈ D.S, s.length = 256
  op : ∀ x ∈ D.O, x.2.length = 256 ∧ x.1 < D.S.length
  fuse0 : 0 ≤ D.fuse
  fuse1 : D.fuse ≤ 2305843009213693952
def secV (S : List (List UInt8)) : List Value := S.flatMap bytesV
def opB (x : Nat × List UInt8) : List Value := .int .i64 (x.1 : Int) :: bytesV x.2
def opV (O : List (Nat × List UInt8)) : List Value := O.flatMap opB
def dev (p : Nat) (D : Dev) : Assn := Sl.ex fun vs : Value => Sl.ex fun vo : Value => star [blk p [vs, vo, .int .i64 D.reads, .int .i64 D.fuse] 150, sl vs 184 256 D.S.length (secV D.S), sl vo 251 257 D.O.length (opV D.O)]
section
variable {F : List Assn} {p : Nat} {D : Dev} {w : World}
theorem dev_open (hs : Sat (dev p D :: F) w) : ∃ vs vo, Sat (blk p [vs, vo, .int .i64 D.reads, .int .i64 D.fuse] 150 :: sl vs 184 256 D.S.length (secV D.S) :: sl vo 251 257 D.O.length (opV D.O) :: F) w := by
  obtain ⟨vs, hs⟩ := Sat.ex_iff.1 hs
  obtain ⟨vo, hs⟩ := Sat.ex_iff.1 hs
  exact ⟨vs, vo, hs.unstar⟩
theorem dev_shut {vs vo : Value} (hs : Sat (blk p [vs, vo, .int .i64 D.reads, .int .i64 D.fuse] 150 :: sl vs 184 256 D.S.length (secV D.S) :: sl vo 251 257 D.O.length (opV D.O) :: F) w) : Sat (dev p D :: F) w :=
  Sat.ex_iff.2 ⟨vs, Sat.ex_iff.2 ⟨vo, Sat.restar (l := [_, _, _]) hs⟩⟩
end

theorem size_spec {F : List Assn} {p : Nat} {D : Dev} {w : World} (hs : Sat (dev p D :: F) w) :
    Ret Tryz.prog 81 [ptr p] w fun v w' => v = int D.S.length ∧ w' = w := by
  obtain ⟨vs, vo, hs⟩ := dev_open hs
  obtain ⟨_, q, c, rfl, hc⟩ := (hs.pull 1 rfl).sl_len
  refine Ret.enter [(true, ptr p)] _ Tryz.func81 rfl Tryz.ntmps81 rfl ?_
  repeat first | refine zg tab rfl rfl ?_ | refine zl (za hs rfl) ?_
  refine MC.ret rfl ?_
  exact ⟨rfl, rfl⟩

def Dev.wrong (D : Dev) (k : Int) (b : Int) : Int := if k < 0 ∨ (D.S.length : Int) ≤ k then 4 else if b ≠ 256 then 2 else if D.fuse = 1 then 150 else 0
theorem ready_spec {F : List Assn} {p : Nat} {D : Dev} {w : World} (hs : Sat (dev p D :: F) w) (hD : D.ok) (k b : Int) :
    Ret Tryz.prog 169 [ptr p, int k, int b] w fun v w' => v = int (D.wrong k b) ∧ w' = w := by
  have hsz := size_spec hs
  obtain ⟨vs, vo, hs⟩ := dev_open hs
  obtain ⟨_, q, c, rfl, hc⟩ := (hs.pull 1 rfl).sl_len
  have hpos := hD.pos
  refine Ret.enter [(true, ptr p), (true, int k), (true, int b)] _ Tryz.func169 rfl Tryz.ntmps169 rfl ?_
  repeat first | refine zg tab rfl rfl ?_ | refine zl (za hs rfl) ?_
  refine zc rfl (hsz) ?_
  rintro _ w' ⟨rfl, rfl⟩
  repeat first | refine zg tab rfl rfl ?_ | refine zl (za hs rfl) ?_
  refine MC.cond rfl (fun h => absurd h (by omega)) (fun _ => ?_)
  repeat first | refine zg tab rfl rfl ?_ | refine zl (za hs rfl) ?_
  refine MC.part rfl rfl (fun h1 => ?_) (fun h1 => ?_)
  · repeat first | refine zg tab rfl rfl ?_ | refine zl (za hs rfl) ?_
    refine MC.ret rfl ?_
    exact ⟨by simp [Dev.wrong, h1, tup], rfl⟩
  repeat first | refine zg tab rfl rfl ?_ | refine zl (za hs rfl) ?_
  refine MC.cond rfl (fun h2 => ?_) (fun h2 => ?_)
  · repeat first | refine zg tab rfl rfl ?_ | refine zl (za hs rfl) ?_
    refine MC.ret rfl ?_
    exact ⟨by simp [Dev.wrong, h2, tup], rfl⟩
  repeat first | refine zg tab rfl rfl ?_ | refine zl (za hs rfl) ?_
  refine MC.cond rfl (fun h3 => ?_) (fun h3 => ?_)
  · repeat first | refine zg tab rfl rfl ?_ | refine zl (za hs rfl) ?_
    refine MC.ret rfl ?_
    exact ⟨by simp [Dev.wrong, h1, h2, h3, tup], rfl⟩
  repeat first | refine zg tab rfl rfl ?_ | refine zl (za hs rfl) ?_
  refine MC.cond rfl (fun h4 => ?_) (fun h4 => ?_)
  · repeat first | refine zg tab rfl rfl ?_ | refine zl (za hs rfl) ?_
    refine MC.ret rfl ?_
    exact ⟨by simp [Dev.wrong, h1, h2, Decidable.not_not.1 h3, h4, tup], rfl⟩
  repeat first | refine zg tab rfl rfl ?_ | refine zl (za hs rfl) ?_
  refine MC.ret rfl ?_
  exact ⟨by simp [Dev.wrong, h1, h2, Decidable.not_not.1 h3, h4, tup], rfl⟩

def burnt (f : Int) : Int := if 1 < f then f - 1 else f
def Dev.cut (D : Dev) (n : Int) : Dev := if n < 0 then D else { D with fuse := min n 1152921504606846976 + 1 }
end Go.Proofs.YtkccjgllanpebaaGreatDoor

namespace Go.Sl
open Go
section
variable {P : Program} {b : Frame} {a : Act} {k : List Item} {cs : List Frame} {w : World} {Q : Exit → Act → World → Prop} {F : Fence} {n : Nat}
end
section
variable {P : Program} {r : Option Nat} {fr : Fr} {d : Option Tmp} {ty : TypeId} {pos : String} {aft : Array Edge} {g : Option (Nat × Bool)} {t e : TypeId}
end
end Go.Sl

namespace Go.Sl
open Go Go.Lib
theorem Sat.below {l : List Assn} {w w' : World} (h : Sat l w) (hb : RowKit.Below w.heap.size w w') : Sat l w' :=
  h.ext (fun i o e => by rw [hb.block i (Array.getElem?_eq_some_iff.1 e).1]; exact e) (by simp [envOf, hb.os, hb.output])
theorem Ret.of_below {P : Program} {f : FuncId} {args : List Value} {w : World} {F : List Assn} {v : Value} (h : Calls P f args.toArray w fun e w' => e = .returned v ∧ RowKit.Below w.heap.size w w') (hs : Sat F w) :
    Ret P f args w fun u w' => u = v ∧ Sat F w' :=
  Calls.mono h fun e w' ⟨he, hb⟩ => ⟨v, he, rfl, hs.below hb⟩
section
variable {P : Program} {r : Option Nat} {fr : Fr} {d : Option Tmp} {ty : TypeId} {pos : String} {aft : Array Edge} {g : Option (Nat × Bool)} {x : Operand} {t : TypeId} {w : World} {l : List Assn} {s : List UInt8} {b k : Nat}
end
end Go.Sl

namespace Go.Sl
open Go
def RetD (P : Program) (f : FuncId) (args : List Value) (w : World) (Post : World → Prop) : Prop :=
  CallsDIn (Wd none) 0 P f args.toArray .returning w fun e u' w' => u' = .returning ∧ ∃ v, e = .returned v ∧ Post w'
theorem RetD.enter {P : Program} {f : FuncId} {fn : Func} {c : Code} {w : World} {Post : World → Prop} (args : List (Bool × Value)) (n : Nat) (hf : P.funcs[f]? = some fn) (hb : fn.body = some c) (hn : fn.ntmps = n) (hargs : Nat.ble args.length n = true)
    (h : MC ⟨P, none, n, bodyPost P fn fun e w' => ∃ v, e = .returned v ∧ (fun (_ : Value) w' => Post w') v w'⟩ [] [.code c] (frOf 0 args) w) : RetD P f (args.map (·.2)) w Post := by
  refine callsDIn_of_wp (R := fun e w' => ∃ v, e = .returned v ∧ Post w') hf hb trivial (h _ ⟨?_, rfl, fun t v e => ?_⟩) rfl
  · have : args.length ≤ n := by simpa using hargs
    subst hn; simp; omega
  · obtain ⟨_, h2⟩ := lk_frOf e
    have h2 : (args.map (·.2))[t]? = some v := by simpa using h2
    have hlt : t < (args.map (·.2)).length := by
      rcases Nat.lt_or_ge t (args.map (·.2)).length with h' | h'
      · exact h'
      · rw [List.getElem?_eq_none h'] at h2; cases h2
    rw [Array.getElem?_append_left (by simpa using hlt)]
    simpa using h2
abbrev later (f : FuncId) (args cap : List Value) : Deferred := { target := .fn (.func f) cap.toArray, args := args.toArray }
section
variable {X : Cx} {P : Program} {n : Nat} {ds : List Deferred} {fr : Fr} {w : World} {fn : Func} {Post : Value → World → Prop} {k : List It}
theorem MC.defer {ops : Array Oper} {R : List (Nat × Oper)} {i : Nat} {ty : TypeId} {pos : String} {aft : Array Edge} {x : Operand} {args : Array Operand} {ts : Array TypeId} {f : FuncId} {first cap vs : List Value} (hr : X.r = none) (hx : ev fr x = some (.func (.func f) first.toArray cap.toArray)) (he : evs fr args.toList = some vs)
    (h : MC X (later f (first ++ vs) cap :: ds) (.ops true ops [] R :: k) fr w) : MC X ds (.ops true ops [] ((i, ⟨none, .defer { callee := .value x, args := args, argTypes := ts }, ty, pos, aft, none⟩) :: R) :: k) fr w := fun a hf => by
  refine .inr ⟨rfl, by simp, fun Q' hQ' => ?_⟩
  cases hQ' rfl
  refine ⟨fun _ _ => trivial, ?_⟩
  have e1 : args.map a.eval = vs.toArray := by apply Array.ext'; simpa using hf.evs he
  have e2 : (Oper.semAt (Wd X.r).round a.eval ⟨none, .defer { callee := .value x, args := args, argTypes := ts }, ty, pos, aft, none⟩).run X.P w = .ok (.defer (later f (first ++ vs) cap)) w := by
    rw [hr]
    have e1' : Array.map (fun x => a.eval x) args = vs.toArray := e1
    simp [Oper.semAt, Wd, execOp, resolve, Deferred.ofValue, hf.ev hx, e1']
  rw [e2]
  exact ⟨by simp, h _ ⟨hf.size, by simp [Act.put, hf.defers], fun t v e => hf.slot t v e⟩⟩
theorem leavesD {a : Act} {f : FuncId} [hF : Fun P f] {args cap : List Value} {Q : World → Prop} (hf : Fits n [later f args cap] fr a) (hc : RetD P f (args ++ cap) w Q) (hres : ∀ w', Q w' → ∀ a, Fits n [later f args cap] fr a → ∃ v, (results fn a.tmps).run P w' = .ok v w' ∧ Post v w') :
    LeavesInM (Wd none) 0 P fn a.tmps (fun e w' => ∃ v, e = .returned v ∧ Post v w') a.defers .returning w := by
  rw [hf.defers]
  refine ⟨by simp, .inr ⟨fun h => by simp [Wd] at h, _, _, f, (args ++ cap).toArray, rfl, ?_, fun _ _ => trivial, hc.mono ?_⟩⟩
  · have := hF.h (args ++ cap).toArray w
    simp [invoke, this]
  · rintro e u' w' ⟨rfl, v, rfl, hq⟩
    obtain ⟨v, h1, h2⟩ := hres w' hq a hf
    exact ⟨v, h1, v, rfl, h2⟩
theorem MC.retD {f : FuncId} [hF : Fun P f] {args cap : List Value} {Q : World → Prop} (hc : RetD P f (args ++ cap) w Q) (hres : ∀ w', Q w' → ∀ a, Fits n [later f args cap] fr a → ∃ v, (results fn a.tmps).run P w' = .ok v w' ∧ Post v w') :
    MC ⟨P, none, n, bodyPostM (Wd none) 0 P fn fun e w' => ∃ v, e = .returned v ∧ Post v w'⟩ [later f args cap] (.code .ret :: k) fr w := fun _ hf => wpIn_ret (by rw [post_ret]; exact leavesD hf hc hres)
theorem run_results2 {l : List Assn} {b1 b2 s1 s2 c1 c2 : Nat} {t1 t2 e1 e2 : TypeId} {v1 v2 : Value} {z1 z2 : List Value} {G1 G2 : List Value → List Assn} {a : Act} [TyI P t1 false 1 c1 z1] [TyI P t2 false 1 c2 z2] [hA1 : At l b1 [v1] e1 G1] [hA2 : At l b2 [v2] e2 G2]
    (hf : Fits n ds fr a) (hr : fn.results = #[.cell s1 t1, .cell s2 t2]) (hs : Sat l w) (hx1 : lk fr s1 = some (.pointer (some ⟨b1, 0, none⟩))) (hx2 : lk fr s2 = some (.pointer (some ⟨b2, 0, none⟩))) : (results fn a.tmps).run P w = .ok (.tuple #[v1, v2]) w := by
  have h : ∀ (t : TypeId) (b c : Nat) (e : TypeId) (z : List Value) (v : Value) (G : List Value → List Assn) [TyI P t false 1 c z] [hA : At l b [v] e G], (loadVar t ⟨b, 0, none⟩).run P w = .ok v w := fun t b c e z v G _ hA => by
    have hC := At.sat (h := hA) hs
    exact run_loadVar (P := P) (t := t) (w := w) (b := b) 0 [v] rfl (fun j u hj => by rw [hC.blk_cell]; rw [Nat.zero_add]; exact hj)
  have h1 := h t1 b1 c1 e1 z1 v1 G1
  have h2 := h t2 b2 c2 e2 z2 v2 G2
  unfold results
  rw [hr]
  simp [hf.slot s1 _ hx1, hf.slot s2 _ hx2, Array.getD_eq_getD_getElem?, asAddr, h1, h2]
end
end Go.Sl

namespace Go.Pa
open Go.Tr
def room (s : St) : Nat := s.kinds.count 0
def PR (E : En) (KK : List Nat) (c : Nat) (F : List PA) (s : St) : Prop := PS E KK F s ∧ c ≤ room s ∧ (∀ x ∈ KK, x ≤ 1) ∧ E.down = false
section
variable {α β : Type} {E : En} {KK : List Nat} {c k : Nat} {F : List PA} {s s' : St} {b b0 : Bs}
def Sure (m : M α) (s : St) (Post : α → St → Prop) : Prop := (∀ e s', ¬ m s (.err e) s') ∧ Ok m s Post
theorem Sure.pure {a : α} {Post : α → St → Prop} (h : Post a s) : Sure (M.pure a) s Post := ⟨fun e s' h => (by cases h.1), Ok.pure h⟩
theorem Sure.bind {m : M α} {f : α → M β} {Post : β → St → Prop} (h : Sure m s fun a s1 => Sure (f a) s1 Post) : Sure (m.bind f) s Post := by
  refine ⟨?_, Ok.bind (h.2.mono fun a s' h => h.2)⟩
  rintro e s' (⟨e', h1, _⟩ | ⟨a, s1, h1, h2⟩)
  · exact h.1 _ _ h1
  · exact (h.2 a s1 h1).1 _ _ h2
theorem Sure.mono {m : M α} {Post Post' : α → St → Prop} (h : Sure m s Post) (hp : ∀ a s', Post a s' → Post' a s') : Sure m s Post' := ⟨h.1, h.2.mono hp⟩
theorem Sure.and {m : M α} {Post Post' : α → St → Prop} (h : Sure m s Post) (h2 : Ok m s Post') : Sure m s fun a s' => Post a s' ∧ Post' a s' := ⟨h.1, fun a s' h' => ⟨h.2 a s' h', h2 a s' h'⟩⟩
theorem Gets.sure_ {m : M α} {a : α} (h : Gets E m s a) (hd : E.down = false) {Post : α → St → Prop} (hp : Post a s) : Sure m s Post := ⟨fun e s' h' => (by have := (h.sure hd h').1; cases this), h.ok hp⟩
theorem PR.imp {l m : List PA} (a : PR E KK c l s) (h : PS E KK l s → PS E KK m s) : PR E KK c m s := ⟨h a.1, a.2⟩
theorem PR.pickF {l r : List PA} (n : Nat) (is : List Nat) (hd : (distinct is && is.all fun i => Nat.blt i n) = true) (hr : pickD l n is = some r) (a : PR E KK c l s) : PR E KK c r s := ⟨a.1.pickF n is hd hr, a.2⟩
theorem PR.less {c' : Nat} (a : PR E KK c F s) (h : c' ≤ c) : PR E KK c' F s := ⟨a.1, Nat.le_trans h a.2.1, a.2.2⟩
theorem PR.one (a : PR E KK c (pg k b :: F) s) : s.kind E k = some 1 := by
  rcases rd_some a.1.1.pg_get with ⟨h, _⟩ | ⟨h, _⟩
  · exact h
  · exfalso
    obtain ⟨h1, h2⟩ := kind_lt' h
    unfold St.kind at h
    rw [if_neg (by omega)] at h
    obtain ⟨hl, hk⟩ := a.1.2.2
    have hlt : k - E.frm < KK.length := by omega
    obtain ⟨c', g1, _, _, g4⟩ := hk (k - E.frm) _ (List.getElem?_eq_getElem hlt)
    have := g4 (a.2.2.1 _ (List.getElem_mem hlt))
    rw [h] at g1
    cases g1
    omega
theorem count_set1 {l : List Nat} {i : Nat} (hi : i < l.length) (h0 : l[i] = 0) : l.count 0 = (l.set i 1).count 0 + 1 := by
  have h : 1 ≤ l.count 0 := List.one_le_count_iff.2 (h0 ▸ List.getElem_mem hi)
  rw [List.count_set hi, h0]
  simp
  omega
theorem take_sure (a : PR E KK (c + 1) F s) : Sure (takeM E) s fun k s' => PR E KK c (pg k zeros :: F) s' := by
  obtain ⟨a, hc, hk, hd⟩ := a
  unfold room at hc
  cases hf : s.kinds.findIdx? (· == 0) with
  | none =>
    exfalso
    rw [List.findIdx?_eq_none_iff] at hf
    have : s.kinds.count 0 = 0 := List.count_eq_zero.2 fun hm => by have := hf 0 hm; simp at this
    omega
  | some i =>
    obtain ⟨hi, h0⟩ := find_first hf
    constructor
    · intro e s' h
      unfold takeM at h
      rw [hf] at h
      cases h.1
    · intro k s' h
      unfold takeM at h
      rw [hf] at h
      obtain ⟨e, rfl⟩ := h
      cases e
      refine ⟨rd_take hi h0 a, ?_, hk, hd⟩
      have := count_set1 hi h0
      show c ≤ (s.kinds.set i 1).count 0
      omega
theorem put_sure (hb : b.length = 256) (a : PR E KK c (pg k b0 :: F) s) : Sure (putM E k b) s fun _ s' => PR E KK c (pg k b :: F) s' := by
  have h1 := a.one
  constructor
  · intro e s' h
    unfold putM at h
    rw [if_pos h1, if_pos hb] at h
    cases h.1
  · intro x s' h
    unfold putM at h
    rw [if_pos h1, if_pos hb] at h
    obtain ⟨_, rfl⟩ := h
    exact ⟨rd_put h1 a.1, a.2.1, a.2.2⟩
theorem new_sure (hb : b.length = 256) (a : PR E KK (c + 1) F s) : Sure (newM E b none) s fun k s' => PR E KK c (pg k b :: F) s' :=
  Sure.bind ((take_sure a).mono fun k s1 h1 => Sure.bind (Sure.pure (Sure.bind ((put_sure hb h1).mono fun _ s2 h2 => Sure.pure h2))))
theorem putN_sure {n : Nd} (hr : n.right) (a : PR E KK (c + 1) F s) : Sure (putNM E none n) s fun k s' => PR E KK c (pg k n.page :: F) s' := by
  unfold putNM
  rw [if_neg (fun h => h hr)]
  exact new_sure (page_len hr) a
theorem putN_sure' {n : Nd} (hr : n.right) (a : PR E KK c (pg k b0 :: F) s) : Sure (putNM E (some k) n) s fun k' s' => PR E KK c (pg k' n.page :: F) s' := by
  have h1 := a.one
  constructor
  · intro e s' h
    unfold putNM at h
    rw [if_neg (fun h => h hr)] at h
    dsimp only [] at h
    rw [if_pos h1] at h
    cases h.1
  · intro x s' h
    unfold putNM at h
    rw [if_neg (fun h => h hr)] at h
    dsimp only [] at h
    rw [if_pos h1] at h
    obtain ⟨e, rfl⟩ := h
    cases e
    exact ⟨rd_put h1 a.1, a.2.1, a.2.2⟩
end
section
variable {E : En} {KK : List Nat} {s s' : St} {h page c : Nat} {n : Nd} {l : List Pr} {b b0 key cell v : Bs} {F : List PA} {hp : Ph}
def keyOk (m : Md) : Prop := ∀ o, m.other = some o → 1 ≤ m.key.length ∧ m.key.length ≤ 64
theorem save_sure (hs : n.sound) (hb : n.size ≤ 338) (a : PR E KK (c + 1) (pg page b0 :: ndA h n l :: F) s) : Sure (saveM E page n) s fun m s' => PR E KK c (resA h m n l :: F) s' ∧ keyOk m := by
  by_cases hr : n.right
  · unfold saveM
    rw [if_pos hr]
    refine Sure.bind ((putN_sure' hr a).mono fun k s1 h1 => Sure.pure ⟨?_, fun o ho => by cases ho⟩)
    exact (h1.imp fun h => PS.sta_iff.2 (PS.fct_iff.2 ⟨⟨hr, rfl⟩, h⟩)).less (by omega)
  · obtain ⟨l', r', key, hsp, hr1, hr2, hk1, hk2⟩ := split_fits hs hr hb
    unfold saveM
    rw [if_neg hr, hsp]
    dsimp only []
    obtain ⟨l1, l2, rfl, hw1, hw2, hf1, hf2, A⟩ := split_ok (F := pg page b0 :: F) hsp ((a.1.1.swap : Al _ _))
    have a1 : PR E KK (c + 1) (pg page b0 :: ndA h l' l1 :: ndA h r' l2 :: F) s := PR.pickF 3 [2, 0, 1] rfl rfl ⟨⟨A, a.1.2⟩, a.2⟩
    refine Sure.bind ((putN_sure' hr1 a1).mono fun k s1 h1 => Sure.bind ((putN_sure hr2 h1).mono fun o s2 h2 => Sure.pure ⟨?_, fun o ho => ⟨hk1, hk2⟩⟩))
    refine h2.imp fun h2 => PS.sx_iff.2 ⟨(l1, l2), PS.sta_iff.2 (PS.fct_iff.2 ⟨⟨rfl, hw1, hw2, rfl⟩, ?_⟩)⟩
    have h3 := h2.pickF 4 [1, 2, 0, 3] rfl rfl
    have h4 : PS E KK (trA full h k l1 :: pg o r'.page :: ndA h r' l2 :: F) s2 := tr_ps.2 ⟨l', hr1, hf1, h3⟩
    exact (PS.pickF 2 [1, 0] rfl rfl (tr_ps.2 ⟨r', hr2, hf2, h4.pickF 3 [1, 2, 0] rfl rfl⟩))
theorem lose_sure (hv : b0.length ≤ 15) (a : PR E KK c (cellA b b0 :: F) s) : Sure (loseM E b) s fun _ s' => PR E KK c F s' := by
  rcases cellA_open a.1 with ⟨rfl, h⟩ | ⟨l, h, _⟩
  · have e : loseM E (0 :: b0) = M.pure () := if_pos rfl
    rw [e]
    exact Sure.pure (a.imp fun h => h.tail)
  · have := h.big; omega
theorem pre_ge {x : Bs} : ∀ {KA : List Bs} {A : List (List Pr)} {lo mid : Option Bs}, pre KA A lo mid → (∀ y, mid = some y → ltB x y = false) → (KA.Pairwise fun a b => ltB a b = true) → ∀ k ∈ KA, ltB x k = false
  | [], _, _, _, _, _, _, k, hk => by cases hk
  | [k0], [a], lo, mid, h, hm, _, k, hk => by
    obtain rfl := List.mem_singleton.1 hk
    exact hm k h.2
  | k0 :: k1 :: KA, a :: A, lo, mid, h, hm, hp, k, hk => by
    obtain ⟨p1, p2⟩ := List.pairwise_cons.1 hp
    have ih := pre_ge (KA := k1 :: KA) h.2 hm p2
    rcases List.mem_cons.1 hk with rfl | hk
    · have h1 := ih k1 (List.mem_cons_self ..)
      have h2 := p1 k1 (List.mem_cons_self ..)
      cases h3 : ltB x k with
      | false => rfl
      | true => rw [ltB_trans h3 h2] at h1; cases h1
    · exact ih k hk
  | [_], [], _, _, h, _, _, _, _ => h.elim
  | [_], _ :: _ :: _, _, _, h, _, _, _, _ => h.2.elim
  | _ :: _ :: _, [], _, _, h, _, _, _, _ => h.elim
theorem suf_le {x : Bs} : ∀ {KC : List Bs} {C : List (List Pr)} {mid hi : Option Bs}, suf KC C mid hi → (∀ y, mid = some y → ltB x y = true) → (KC.Pairwise fun a b => ltB a b = true) → ∀ k ∈ KC, ltB x k = true
  | [], _, _, _, _, _, _, k, hk => by cases hk
  | k0 :: KC, a :: C, mid, hi, h, hm, hp, k, hk => by
    obtain ⟨p1, p2⟩ := List.pairwise_cons.1 hp
    have h0 := hm k0 h.1
    rcases List.mem_cons.1 hk with rfl | hk
    · exact h0
    · exact ltB_trans h0 (p1 k hk)
  | _ :: _, [], _, _, h, _, _, _, _ => h.elim
theorem full_len : ∀ (h : Nat) {page : Nat} {l : List Pr} {F : List PA}, PS E KK (trA full h page l :: F) s → 2 ^ h ≤ l.length
  | 0, page, l, F, a => by
    obtain ⟨m, hr, hf, a⟩ := tr_ps.1 a
    obtain ⟨es, hm, rfl, _⟩ := leaf_ps.1 (a.pickF 2 [1, 0] rfl rfl)
    cases es with
    | nil => exact absurd (by rw [hm]; rfl) hf
    | cons e es => simp [prsOf]
  | h + 1, page, l, F, a => by
    obtain ⟨m, hr, hf, a⟩ := tr_ps.1 a
    obtain ⟨ks, hm, rfl, hsp, a2⟩ := kids_ps.1 (a.pickF 2 [1, 0] rfl rfl)
    have hl := seps_len hsp
    rw [List.length_map] at hl
    have hk1 : 1 ≤ m.keys.length := by
      cases hk : m.keys with
      | nil => exact absurd hk hf
      | cons => simp
    match ks, hl, a2 with
    | [], hl, a2 => simp at hl
    | [x], hl, a2 => have hl : 1 = m.keys.length + 1 := hl; omega
    | x :: y :: ks, hl, a2 =>
      have h1 := full_len h (kidA_mid (A := []) (C := y :: ks) (x := x).1 a2)
      have h2 := full_len h (kidA_mid (A := [x]) (C := ks) (x := y).1 a2)
      unfold flat
      simp only [List.map_cons, List.flatten_cons, List.length_append]
      rw [Nat.pow_succ]
      omega
theorem renew_sure {A C : List (Nat × List Pr)} {KA KC : List Bs} {p : Nat} {lx : List Pr} {m1 m2 : Option Bs} {m : Md} {i : Nat} (hr : n.right) (hn : n = ⟨false, KA ++ KC, [], A.map (·.1) ++ p :: C.map (·.1)⟩) (hf : full n) (hA : A.length = KA.length) (hi : i = KA.length)
    (h1 : pre KA (A.map (·.2)) none m1) (h2 : suf KC (C.map (·.2)) m2 none) (hw : wi m1 m2 lx) (hko : keyOk m) (a : PR E KK (c + 1) (pg page n.page :: outA full h m lx :: (kidA h A ++ (kidA h C ++ F))) s) :
    Sure (renewM E page n i m) s fun r s' => PR E KK c (outA full (h + 1) r (flat A ++ lx ++ flat C) :: F) s' ∧ keyOk r := by
  have hkl : (A.map (·.1)).length = i := by rw [List.length_map, hA, hi]
  have hkids : n.kids = A.map (·.1) ++ p :: C.map (·.1) := by rw [hn]
  have hkeys : n.keys = KA ++ KC := by rw [hn]
  have hget : n.kids.getD i 0 = p := by
    rw [hkids, List.getD_eq_getElem?_getD, List.getElem?_append_right (by omega), hkl, Nat.sub_self]; rfl
  have hset : n.kids.set i m.page = A.map (·.1) ++ m.page :: C.map (·.1) := by
    rw [hkids, List.set_append_right _ _ (by omega), hkl, Nat.sub_self]; rfl
  have hlf : n.leaf = false := by rw [hn]
  obtain ⟨hsd, hsz⟩ := hr
  have hri := rising_iff.1 hsd.2.1
  rw [hkeys] at hri
  have h3 := hsd.2.2
  rw [hlf, if_neg (by decide)] at h3
  obtain ⟨-, hkl2, hk8⟩ := h3
  rw [hkids, hkeys] at hkl2
  rw [hkids] at hk8
  have hpg : m.page < 8192 := by
    have a2 := (a.1.pickF 2 [1, 0] rfl rfl)
    cases ho : m.other with
    | none =>
      obtain ⟨_, _, _, a3⟩ := tr_ps.1 ((out_one ho).1 a2)
      exact a3.lt
    | some o =>
      obtain ⟨_, _, _, _, _, _, a2⟩ := (out_two ho).1 a2
      obtain ⟨_, _, _, a3⟩ := tr_ps.1 a2
      exact a3.lt
  unfold renewM
  rw [hget]
  dsimp only []
  by_cases hc : p = m.page ∧ m.other = none
  · rw [if_pos hc]
    refine Sure.pure ⟨(a.imp fun a => ?_).less (by omega), fun o ho => by cases ho⟩
    obtain ⟨hp1, ho⟩ := hc
    have a2 := a.pickF 2 [1, 0] rfl rfl
    rw [out_one ho, ← hp1] at a2
    rw [out_one rfl]
    refine tr_ps.2 ⟨n, ⟨hsd, hsz⟩, hf, ?_⟩
    have hsp : seps (KA ++ KC) (A.map (·.2) ++ lx :: C.map (·.2)) none none := (seps_mid (by rw [List.length_map, hA])).2 ⟨m1, m2, h1, hw, h2⟩
    have a3 := (a2.pickF 2 [1, 0] rfl rfl).under fun k hk => fold_kids hsp hk
    rw [← hn] at a3
    exact a3
  · rw [if_neg hc]
    have hins : ∀ o, (n.kids.set i m.page).insertIdx (i + 1) o = A.map (·.1) ++ m.page :: o :: C.map (·.1) := fun o => by
      rw [hset, show A.map (·.1) ++ m.page :: C.map (·.1) = (A.map (·.1) ++ [m.page]) ++ C.map (·.1) by simp, ins_mid (by simp; omega)]; simp
    have hki : n.keys.insertIdx i m.key = KA ++ m.key :: KC := by
      rw [hkeys, ins_mid hi]
    have hwn : wts n = (KA ++ KC).map fun k => 3 + k.length := by unfold wts; rw [hlf, if_neg (by decide), hkeys]
    have hzn := size_wts hsd
    rw [hlf, if_neg (by decide), hwn] at hzn
    cases ho : m.other with
    | none =>
      dsimp only []
      rw [hset]
      have a2 := (a.pickF 2 [1, 0] rfl rfl)
      have hsp : seps (KA ++ KC) (A.map (·.2) ++ lx :: C.map (·.2)) none none := (seps_mid (by rw [List.length_map, hA])).2 ⟨m1, m2, h1, hw, h2⟩
      have a3 := a2.imp fun a2 => (PS.pickF 2 [1, 0] rfl rfl ((out_one ho).1 a2)).under fun k hk => fold_kids hsp hk
      have e : ({ n with kids := A.map (·.1) ++ m.page :: C.map (·.1) } : Nd) = ⟨false, KA ++ KC, [], A.map (·.1) ++ m.page :: C.map (·.1)⟩ := by rw [hn]
      rw [e]
      have hsd2 : Nd.sound ⟨false, KA ++ KC, [], A.map (·.1) ++ m.page :: C.map (·.1)⟩ := ⟨fun k hk => hsd.1 k (by rw [hkeys]; exact hk), rising_iff.2 hri, by
        simp only [Bool.false_eq_true, if_false]
        refine ⟨trivial, by simpa using hkl2, fun k hk => ?_⟩
        rcases List.mem_append.1 hk with hk | hk
        · exact hk8 k (List.mem_append_left _ hk)
        · rcases List.mem_cons.1 hk with rfl | hk
          · exact hpg
          · exact hk8 k (List.mem_append_right _ (List.mem_cons_of_mem _ hk))⟩
      have hz2 := size_wts hsd2
      simp only [wts, Bool.false_eq_true, if_false] at hz2
      refine (save_sure hsd2 (by omega) a3).mono fun r s' h' => ⟨h'.1.imp fun h' => res_out h' fun _ _ => ?_, h'.2⟩
      unfold full at hf ⊢
      rw [hkeys] at hf
      exact hf
    | some o =>
      dsimp only []
      rw [hins, hki]
      have a2 := (a.pickF 2 [1, 0] rfl rfl)
      obtain ⟨x1, x2, rfl, hw1, hw2, _, a2'⟩ := (out_two ho).1 a2.1
      have a2 : PR E KK (c + 1) _ s := ⟨a2', a2.2⟩
      obtain ⟨hwa, hwb⟩ := wi.app.1 hw
      have hsp : seps (KA ++ m.key :: KC) (A.map (·.2) ++ x1 :: x2 :: C.map (·.2)) none none := (seps_mid (by rw [List.length_map, hA])).2 ⟨m1, some m.key, h1, fun x hx => ⟨(hwa x hx).1, (hw1 x hx).2⟩, rfl, m2, fun x hx => ⟨(hw2 x hx).1, (hwb x hx).2⟩, h2⟩
      have a3 := a2.imp fun a2 => (PS.pickF 3 [2, 0, 1] rfl rfl a2).under fun k hk => fold_kids2 hsp hk
      have e : ({ n with keys := KA ++ m.key :: KC, kids := A.map (·.1) ++ m.page :: o :: C.map (·.1) } : Nd) = ⟨false, KA ++ m.key :: KC, [], A.map (·.1) ++ m.page :: o :: C.map (·.1)⟩ := by rw [hn]
      rw [e]
      have hx1 := full_len h a2'
      have hx2 := full_len h (a2'.pickF 2 [1, 0] rfl rfl)
      have hpos : 0 < 2 ^ h := Nat.two_pow_pos h
      have hog : o < 8192 := by
        obtain ⟨_, _, _, a3⟩ := tr_ps.1 (a2'.pickF 2 [1, 0] rfl rfl)
        exact a3.lt
      obtain ⟨hp1, hp2, hp3⟩ := List.pairwise_append.1 hri
      have hko := hko o ho
      have hlow : ∀ k ∈ KA, ltB k m.key = true := fun k hk => by
        obtain ⟨x, hx⟩ := List.exists_mem_of_length_pos (show 0 < x1.length by omega)
        exact le_ltB (pre_ge h1 (fun y hy => (hwa x hx).1 y hy) hp1 k hk) ((hw1 x hx).2 _ rfl)
      have hhigh : ∀ k ∈ KC, ltB m.key k = true := fun k hk => by
        obtain ⟨x, hx⟩ := List.exists_mem_of_length_pos (show 0 < x2.length by omega)
        exact le_ltB ((hw2 x hx).1 _ rfl) (suf_le h2 (fun y hy => (hwb x hx).2 y hy) hp2 k hk)
      have hsd2 : Nd.sound ⟨false, KA ++ m.key :: KC, [], A.map (·.1) ++ m.page :: o :: C.map (·.1)⟩ := ⟨fun k hk => by
          rcases List.mem_append.1 hk with hk | hk
          · exact hsd.1 k (by rw [hkeys]; exact List.mem_append_left _ hk)
          · rcases List.mem_cons.1 hk with rfl | hk
            · exact hko
            · exact hsd.1 k (by rw [hkeys]; exact List.mem_append_right _ hk), rising_iff.2 (List.pairwise_append.2 ⟨hp1, List.pairwise_cons.2 ⟨hhigh, hp2⟩, fun x hx y hy => by
          rcases List.mem_cons.1 hy with rfl | hy
          · exact hlow x hx
          · exact hp3 x hx y hy⟩), by
        simp only [Bool.false_eq_true, if_false]
        refine ⟨trivial, by simp at hkl2 ⊢; omega, fun k hk => ?_⟩
        rcases List.mem_append.1 hk with hk | hk
        · exact hk8 k (List.mem_append_left _ hk)
        · rcases List.mem_cons.1 hk with rfl | hk
          · exact hpg
          · rcases List.mem_cons.1 hk with rfl | hk
            · exact hog
            · exact hk8 k (List.mem_append_right _ (List.mem_cons_of_mem _ hk))⟩
      have hz2 := size_wts hsd2
      simp only [wts, Bool.false_eq_true, if_false, List.map_append, List.map_cons, List.sum_append, List.sum_cons] at hz2 hzn
      refine (save_sure hsd2 (by omega) a3).mono fun r s' h' => ⟨h'.1.imp fun h' => res_out h' fun _ _ => ?_, h'.2⟩
      unfold full
      simp
theorem insert_sure (hv : v.length ≤ 15) (hkb : 1 ≤ key.length ∧ key.length ≤ 64) : ∀ (h : Nat) {page : Nat} {l : List Pr} {F : List PA} {s : St} {c : Nat}, (∀ x ∈ l, x.2.length ≤ 15) → PR E KK (c + (h + 1)) (trA full h page l :: cellA cell v :: F) s → Sure (insertM E (h + 1) page key cell) s fun x s' => PR E KK c (outA full h x.1 (insL l key v) :: F) s' ∧ keyOk x.1 := by
  intro h
  induction h with
  | zero =>
    intro page l F s c hvs a0
    have hcl : cell.length ≤ 16 := by
      rcases cellA_open (a0.1.pickF 2 [1, 0] rfl rfl) with ⟨rfl, h⟩ | ⟨l, h, _⟩
      · simp; omega
      · have := h.big; omega
    obtain ⟨n, hr, hf, a⟩ := tr_ps.1 a0.1
    obtain ⟨es, hn, rfl, a1⟩ := leaf_ps.1 (a.pickF 2 [1, 0] rfl rfl)
    unfold insertM
    refine Sure.bind ((level_gets a hr (by rw [hn]; rfl)).sure_ a0.2.2.2 ?_)
    obtain ⟨i, hfd, hi, hlo, hhi⟩ := leaf_find (key := key) hn hr.1.2.1
    have hes : es = es.take i ++ es.drop i := (List.take_append_drop _ _).symm
    have hkeys : n.keys = es.map (·.1) := by rw [hn]; rfl
    have hvals : n.vals = es.map (·.2.1) := by rw [hn]; rfl
    have hlf : n.leaf = true := by rw [hn]; rfl
    have hlp : ∀ x ∈ prsOf (es.take i), ltB x.1 key = true := fun x hx => by obtain ⟨e, he, rfl⟩ := List.mem_map.1 hx; exact hlo e he
    have hri := rising_iff.1 hr.1.2.1
    rw [hkeys, List.pairwise_map] at hri
    have hke : ∀ e ∈ es, 1 ≤ e.1.length ∧ e.1.length ≤ 64 := fun e he => hr.1.1 e.1 (by rw [hkeys]; exact List.mem_map_of_mem he)
    have h3 := hr.1.2.2
    rw [hlf, if_pos rfl] at h3
    have hve : ∀ e ∈ es, e.2.1.length ≤ 16 := fun e he => h3.2.2 e.2.1 (by rw [hvals]; exact List.mem_map_of_mem he)
    have hwl : ∀ es : List (Bs × Bs × Bs), wts (leafN es) = es.map fun e => 2 + e.1.length + e.2.1.length := fun es => by
      unfold wts leafN
      rw [if_pos rfl]
      dsimp only []
      rw [List.zipWith_map, List.zipWith_self]
    have hzn := size_wts hr.1
    rw [hlf, if_pos rfl] at hzn
    rw [hn, hwl] at hzn
    have hsz := hr.2
    rw [hn] at hsz
    have hsound : ∀ A C : List (Bs × Bs × Bs), (∀ e ∈ A, e ∈ es ∧ ltB e.1 key = true) → (∀ e ∈ C, e ∈ es ∧ ltB key e.1 = true) → (A.Pairwise fun a b => ltB a.1 b.1 = true) → (C.Pairwise fun a b => ltB a.1 b.1 = true) → Nd.sound (leafN (A ++ (key, cell, v) :: C)) := fun A C h1 h2 p1 p2 => by
      refine ⟨fun k hk => ?_, rising_iff.2 ?_, ?_⟩
      · obtain ⟨e, he, rfl⟩ := List.mem_map.1 hk
        rcases List.mem_append.1 he with he | he
        · exact hke e (h1 e he).1
        · rcases List.mem_cons.1 he with rfl | he
          · exact hkb
          · exact hke e (h2 e he).1
      · show ((A ++ (key, cell, v) :: C).map (·.1)).Pairwise _
        rw [List.pairwise_map]
        refine List.pairwise_append.2 ⟨p1, List.pairwise_cons.2 ⟨fun x hx => (h2 x hx).2, p2⟩, fun x hx y hy => ?_⟩
        rcases List.mem_cons.1 hy with rfl | hy
        · exact (h1 x hx).2
        · exact ltB_trans (h1 x hx).2 (h2 y hy).2
      · show (if true = true then _ else _)
        rw [if_pos rfl]
        refine ⟨by simp [leafN], rfl, fun w hw => ?_⟩
        obtain ⟨e, he, rfl⟩ := List.mem_map.1 hw
        rcases List.mem_append.1 he with he | he
        · exact hve e (h1 e he).1
        · rcases List.mem_cons.1 he with rfl | he
          · exact hcl
          · exact hve e (h2 e he).1
    have hpt : (es.take i).Pairwise fun a b => ltB a.1 b.1 = true := hri.sublist (List.take_sublist _ _)
    have hpd : (es.drop i).Pairwise fun a b => ltB a.1 b.1 = true := hri.sublist (List.drop_sublist _ _)
    have hmt : ∀ e ∈ es.take i, e ∈ es ∧ ltB e.1 key = true := fun e he => ⟨List.mem_of_mem_take he, hlo e he⟩
    dsimp only []
    rw [hfd]
    dsimp only []
    rw [if_pos rfl]
    cases hh : hasK (prsOf es) key with
    | true =>
      rw [hh, if_pos rfl] at hhi
      obtain ⟨e, C, hd, he, hC⟩ := hhi
      rw [hd] at hes hpd
      have hil : (es.take i).length = i := by rw [List.length_take]; omega
      have hv1 : n.vals.getD i [] = e.2.1 := by
        rw [hvals, List.getD_eq_getElem?_getD, List.getElem?_map, ← List.head?_drop, hd]; rfl
      rw [if_pos rfl, if_pos rfl, hv1]
      have a2 : PS E KK (cellA e.2.1 e.2.2 :: (pg page n.page :: cellA cell v :: (entA (es.take i) ++ (entA C ++ F)))) s := by
        rw [hes] at a1
        have e1 : entA (es.take i ++ e :: C) = entA (es.take i) ++ cellA e.2.1 e.2.2 :: entA C := by simp [entA]
        rw [e1, List.append_assoc] at a1
        have a3 := PS.mid.1 a1
        have a4 : PS E KK (cellA e.2.1 e.2.2 :: ((entA (es.take i) ++ entA C) ++ pg page n.page :: cellA cell v :: F)) s := by
          simpa [List.append_assoc] using a3
        have a5 := a4.under fun k hk => (Al.mid.1 hk).cons_imp fun k hk => Al.mid.1 hk
        simpa [List.append_assoc] using a5
      have hev : e.2.2.length ≤ 15 := hvs (e.1, e.2.2) (List.mem_map.2 ⟨e, by rw [hes]; simp, rfl⟩)
      refine Sure.bind ((lose_sure hev (⟨a2, a0.2⟩ : PR E KK (c + (0 + 1)) _ s)).mono fun _ s1 h1 => Sure.bind ?_)
      have e2 : ({ n with vals := n.vals.set i cell } : Nd) = leafN (es.take i ++ (key, cell, v) :: C) := by
        rw [hn]
        unfold leafN
        dsimp only []
        have e3 : es.map (·.1) = (es.take i ++ (key, cell, v) :: C).map (·.1) := by
          have e5 := congrArg (List.map fun x : Bs × Bs × Bs => x.1) hes
          rw [e5]
          simp [he]
        have e4 : (es.map (·.2.1)).set i cell = (es.take i ++ (key, cell, v) :: C).map (·.2.1) := by
          conv => lhs; rw [hes]
          rw [List.map_append, List.set_append_right _ _ (by rw [List.length_map]; omega), List.length_map, hil, Nat.sub_self]
          simp
        rw [e3, e4]
      rw [e2]
      have hl' : insL (prsOf es) key v = prsOf (es.take i ++ (key, cell, v) :: C) := by
        have : prsOf es = prsOf (es.take i) ++ prsOf [e] ++ prsOf C := (congrArg prsOf hes).trans (by simp [prsOf])
        rw [this, insL_mid hlp (fun x hx => by obtain ⟨y, hy, rfl⟩ := List.mem_map.1 hx; exact hC y hy)]
        simp [prsOf, insL, he, ltB_irrefl]
      have a3 : PR E KK (c + (0 + 1)) (pg page n.page :: ndA 0 (leafN (es.take i ++ (key, cell, v) :: C)) (prsOf (es.take i ++ (key, cell, v) :: C)) :: F) s1 := h1.imp fun h1 => h1.under fun k hk => leaf_iff.2 ⟨_, rfl, rfl, by
        have e1 : entA (es.take i ++ (key, cell, v) :: C) = entA (es.take i) ++ cellA cell v :: entA C := by simp [entA]
        rw [e1, List.append_assoc]
        exact Al.mid.2 hk⟩
      have hsd := hsound (es.take i) C hmt (fun x hx => ⟨by rw [hes]; simp [hx], hC x hx⟩) hpt (List.pairwise_cons.1 hpd).2
      have hz2 : Nd.size (leafN _) = 2 + (wts (leafN _)).sum := size_wts hsd
      have hzt : ((es.map fun e => 2 + e.1.length + e.2.1.length).sum) = (((es.take i).map fun e => 2 + e.1.length + e.2.1.length).sum) + ((2 + e.1.length + e.2.1.length) + (C.map fun e => 2 + e.1.length + e.2.1.length).sum) := by
        conv => lhs; rw [hes]
        rw [List.map_append, List.sum_append]
        try rw [List.map_cons, List.sum_cons]
      rw [hwl, List.map_append, List.map_cons, List.sum_append, List.sum_cons] at hz2
      refine (save_sure hsd (by dsimp only [] at hz2; omega) a3).mono fun m s2 h2 => Sure.pure ⟨?_, h2.2⟩
      rw [hl']
      exact h2.1.imp fun h2 => res_out h2 fun _ _ => leafN_full _ _ _
    | false =>
      rw [hh, if_neg (by decide)] at hhi
      have hil : (es.take i).length = i := by rw [List.length_take]; omega
      rw [if_neg (by decide), if_neg (by decide)]
      refine Sure.bind (Sure.pure (Sure.bind ?_))
      have e2 : ({ n with keys := n.keys.insertIdx i key, vals := n.vals.insertIdx i cell } : Nd) = leafN (es.take i ++ (key, cell, v) :: es.drop i) := by
        rw [hn]
        unfold leafN
        dsimp only []
        have e3 : ∀ {β : Type} (f : Bs × Bs × Bs → β), (es.map f).insertIdx i (f (key, cell, v)) = (es.take i ++ (key, cell, v) :: es.drop i).map f := fun f => by
          conv => lhs; rw [hes]
          rw [List.map_append, ins_mid (by rw [List.length_map, hil])]
          simp
        rw [← e3 (·.1), ← e3 (·.2.1)]
      rw [e2]
      have hl' : insL (prsOf es) key v = prsOf (es.take i ++ (key, cell, v) :: es.drop i) := by
        have : prsOf es = prsOf (es.take i) ++ [] ++ prsOf (es.drop i) := (congrArg prsOf hes).trans (by simp [prsOf])
        rw [this, insL_mid hlp (fun x hx => by obtain ⟨y, hy, rfl⟩ := List.mem_map.1 hx; exact hhi y hy)]
        simp [prsOf, insL]
      have a3 : PR E KK (c + (0 + 1)) (pg page n.page :: ndA 0 (leafN (es.take i ++ (key, cell, v) :: es.drop i)) (prsOf (es.take i ++ (key, cell, v) :: es.drop i)) :: F) s := by
        refine ⟨?_, a0.2⟩
        have a4 : PS E KK (pg page n.page :: (entA es ++ cellA cell v :: F)) s := PS.mid.1 a1
        refine a4.under fun k hk => leaf_iff.2 ⟨_, rfl, rfl, ?_⟩
        have e1 : entA (es.take i ++ (key, cell, v) :: es.drop i) = entA (es.take i) ++ cellA cell v :: entA (es.drop i) := by simp [entA]
        have e4 : entA es = entA (es.take i) ++ entA (es.drop i) := by simp only [entA, ← List.map_append, List.take_append_drop]
        rw [e1, List.append_assoc]
        refine Al.mid.2 ?_
        have := Al.mid.1 hk
        rw [e4, List.append_assoc] at this
        exact this
      have hsd := hsound (es.take i) (es.drop i) hmt (fun x hx => ⟨List.mem_of_mem_drop hx, hhi x hx⟩) hpt hpd
      have hz2 : Nd.size (leafN _) = 2 + (wts (leafN _)).sum := size_wts hsd
      have hzt : ((es.map fun e => 2 + e.1.length + e.2.1.length).sum) = (((es.take i).map fun e => 2 + e.1.length + e.2.1.length).sum) + ((es.drop i).map fun e => 2 + e.1.length + e.2.1.length).sum := by
        conv => lhs; rw [hes]
        rw [List.map_append, List.sum_append]
        try rw [List.map_cons, List.sum_cons]
      rw [hwl, List.map_append, List.map_cons, List.sum_append, List.sum_cons] at hz2
      refine (save_sure hsd (by dsimp only [] at hz2; omega) a3).mono fun m s2 h2 => Sure.pure ⟨?_, h2.2⟩
      rw [hl']
      exact h2.1.imp fun h2 => res_out h2 fun _ _ => leafN_full _ _ _
  | succ h ih =>
    intro page l F s c hvs a0
    obtain ⟨n, hr, hf, a⟩ := tr_ps.1 a0.1
    obtain ⟨ks, hn, rfl, hsp, a1⟩ := kids_ps.1 (a.pickF 2 [1, 0] rfl rfl)
    unfold insertM
    refine Sure.bind ((level_gets a hr (by rw [hn]; rfl)).sure_ a0.2.2.2 ?_)
    obtain ⟨i, A, C, p, lx, KA, KC, m1, m2, hfd, hks, hK, hA, hi, h1, h2, hw, hm1, hm2, hlo, hhi⟩ := kid_open (key := key) hr hn hsp
    dsimp only []
    rw [hfd]
    dsimp only []
    rw [if_neg (by omega)]
    have hkids : n.kids = A.map (·.1) ++ p :: C.map (·.1) := by rw [hn, hks]; simp
    have hget : n.kids.getD i 0 = p := by
      rw [hkids, List.getD_eq_getElem?_getD, List.getElem?_append_right (by rw [List.length_map]; omega), List.length_map, show i - A.length = 0 by omega]; rfl
    rw [hget]
    have a2 : PS E KK (trA full h p lx :: cellA cell v :: (pg page n.page :: (kidA h A ++ (kidA h C ++ F)))) s := by
      have a3 : PS E KK (trA full h p lx :: (kidA h A ++ (kidA h C ++ pg page n.page :: cellA cell v :: F))) s := ⟨unfold_kids hks a1.1, a1.2⟩
      have a4 : PS E KK (trA full h p lx :: ((kidA h A ++ kidA h C) ++ pg page n.page :: cellA cell v :: F)) s := by simpa [List.append_assoc] using a3
      have a5 := a4.under fun k hk => (Al.mid.1 hk).cons_imp fun k hk => Al.mid.1 hk
      have a6 := a5.pickF 3 [0, 2, 1] rfl rfl
      simpa [List.append_assoc] using a6
    have hfl : flat ks = flat A ++ lx ++ flat C := by rw [hks]; simp [flat]
    have a2' : PR E KK ((c + 1) + (h + 1)) _ s := ⟨a2, by have := a0.2.1; omega, a0.2.2⟩
    refine Sure.bind ((ih (fun x hx => hvs x (by rw [hfl]; simp [hx])) a2').mono ?_)
    rintro ⟨m, fr⟩ s1 ⟨h3, hko⟩
    refine Sure.bind ((renew_sure (p := p) (A := A) (C := C) (KA := KA) (KC := KC) hr (by rw [hn, hK, hks]; simp) hf hA hi h1 h2 (insL_wi hw hm1 hm2) hko (h3.pickF 2 [1, 0] rfl rfl)).mono fun r s2 h4 => Sure.pure ⟨?_, h4.2⟩)
    rw [hfl, insL_mid hlo hhi]; exact h4.1
theorem grow_sure {t : T} {m : Md} (h0 : t.height = h + 1) (hko : keyOk m) (a : PR E KK (c + 1) (outA full h m l :: F) s) : Sure (growM E t m) s fun t' s' => PR E KK c (trT t' l :: F) s' := by
  unfold growM
  cases ho : m.other with
  | none =>
    refine Sure.pure ((a.imp fun a => ?_).less (by omega))
    exact (trT_succ (t := { t with root := m.page }) h0).2 ((out_one ho).1 a)
  | some o =>
    obtain ⟨l1, l2, rfl, h1, h2, _, a1⟩ := (out_two ho).1 a.1
    dsimp only []
    have hp1 : m.page < 8192 := by obtain ⟨_, _, _, a3⟩ := tr_ps.1 a1; exact a3.lt
    have hp2 : o < 8192 := by obtain ⟨_, _, _, a3⟩ := tr_ps.1 (a1.pickF 2 [1, 0] rfl rfl); exact a3.lt
    obtain ⟨k1, k2⟩ := hko o ho
    have hsd : Nd.sound ⟨false, [m.key], [], [m.page, o]⟩ := ⟨fun k hk => by obtain rfl := List.mem_singleton.1 hk; exact ⟨k1, k2⟩, trivial, by
      simp only [Bool.false_eq_true, if_false]
      exact ⟨trivial, rfl, fun k hk => by simp at hk; rcases hk with rfl | rfl <;> assumption⟩⟩
    have hz := size_wts hsd
    simp only [wts, Bool.false_eq_true, if_false, List.map_cons, List.map_nil, List.sum_cons, List.sum_nil] at hz
    refine Sure.bind ((putN_sure ⟨hsd, by omega⟩ (⟨a1, a.2⟩ : PR E KK (c + 1) _ s)).mono fun k s1 h3 => Sure.pure (h3.imp fun h3 => ?_))
    refine (trT_succ (h := h + 1) (by show t.height + 1 = _; rw [h0])).2 (tr_ps.2 ⟨_, ⟨hsd, by omega⟩, by unfold full; simp, h3.under fun q hq => ?_⟩)
    have := fold_kids2 (A := []) (C := []) (p := m.page) (q := o) (lx := l1) (ly := l2) (K := [m.key]) (F := F) (h := h) (hp := q) ⟨h1, h2⟩ (by simpa [kidA] using hq)
    simpa [flat] using this
theorem put_sure' {t : T} {value : Bs} (hv : value.length ≤ 15) (hkb : 1 ≤ key.length ∧ key.length ≤ 64) (hvs : ∀ x ∈ l, x.2.length ≤ 15) (hl : Holds t l) (a : PR E KK (c + (t.height + 1)) (trT t l :: F) s) :
    Sure (putT E t key value) s fun t' s' => PR E KK c (trT t' (insL l key value) :: F) s' ∧ Holds t' (insL l key value) := by
  refine Sure.mono (Sure.and ?_ ((put_ok' (key := key) (value := value) hl a.1).mono fun _ _ h => h.2)) fun _ _ h => h
  unfold putT
  have hcm : cellM E value = M.pure (0 :: value) := by unfold cellM; rw [if_pos hv]
  rw [hcm]
  have a1 : PR E KK (c + (t.height + 1)) (cellA (0 :: value) value :: trT t l :: F) s := a.imp fun a => cellA_short hv a
  refine Sure.bind (Sure.pure ?_)
  by_cases h0 : t.height = 0
  · rw [if_pos h0]
    obtain ⟨rfl, h3⟩ := (trT_zero h0).1 (a1.1.pickF 2 [1, 0] rfl rfl)
    have hsd : Nd.sound ⟨true, [key], [0 :: value], []⟩ := ⟨fun k hk => by obtain rfl := List.mem_singleton.1 hk; exact hkb, trivial, by
      simp only [if_true]
      exact ⟨rfl, trivial, fun k hk => by obtain rfl := List.mem_singleton.1 hk; simp; omega⟩⟩
    have hz := size_wts hsd
    simp only [wts, if_true, List.zipWith_cons_cons, List.zipWith_nil_left, List.sum_cons, List.sum_nil, List.length_cons] at hz
    have hri : Nd.right ⟨true, [key], [0 :: value], []⟩ := ⟨hsd, by omega⟩
    refine Sure.bind ((putN_sure hri (⟨h3, by have := a1.2.1; omega, a1.2.2⟩ : PR E KK (c + 1) _ s)).mono fun k s2 h4 => Sure.pure (h4.imp fun h4 => ?_))
    refine (trT_succ (t := ⟨k, 1, 1⟩) (h := 0) rfl).2 (tr_ps.2 ⟨_, hri, by unfold full; simp, h4.under fun q hq => ?_⟩)
    exact leaf_iff.2 ⟨[(key, 0 :: value, value)], rfl, rfl, hq⟩
  · rw [if_neg h0]
    obtain ⟨h, h5⟩ : ∃ h, t.height = h + 1 := ⟨t.height - 1, by omega⟩
    have a2 : PR E KK ((c + 1) + (h + 1)) (trA full h t.root l :: cellA (0 :: value) value :: F) s := ⟨(trT_succ h5).1 (a1.1.pickF 2 [1, 0] rfl rfl), by have := a1.2.1; omega, a1.2.2⟩
    rw [h5]
    refine Sure.bind ((insert_sure hv hkb h hvs a2).mono ?_)
    rintro ⟨m, fr⟩ s2 ⟨h3, hko⟩
    exact grow_sure rfl hko h3
theorem height_le {t : T} (hl : Holds t l) (h40 : l.length ≤ 40) (a : PS E KK (trT t l :: F) s) : t.height ≤ 6 := by
  rcases Nat.eq_zero_or_pos t.height with h0 | h0
  · omega
  · obtain ⟨h, h5⟩ : ∃ h, t.height = h + 1 := ⟨t.height - 1, by omega⟩
    have := full_len h ((trT_succ h5).1 a)
    rcases Nat.lt_or_ge h 6 with h6 | h6
    · omega
    · have := Nat.pow_le_pow_right (show 0 < 2 by omega) h6
      omega
end
end Go.Pa

namespace Go.Sl
open Go Go.ChangeShapes Go.WideShapes
section
variable {H : Type} {enc : TypeId × Value → H} {P : Program} {W : World}
theorem rd_old {a : Addr} {xs : List Value} (h : ∀ i, i < xs.length → W.cell? (a.add i) = xs[i]?) (h0 : 0 < xs.length) : ∃ b o, (some a : Option Addr) = some ⟨b, o, none⟩ ∧ Rd [old W] b o xs := by
  obtain ⟨b, o, s⟩ := a
  have e0 := h 0 h0
  rw [List.getElem?_eq_getElem h0] at e0
  have hs : s = none := by
    cases s with
    | none => rfl
    | some s => simp [Addr.add, World.cell?] at e0; split at e0 <;> simp at e0
  subst hs
  refine ⟨b, o, rfl, fun w hw j u hu => ?_⟩
  have hj : j < xs.length := (List.getElem?_eq_some_iff.1 hu).1
  have e1 := h j hj
  rw [Addr.add_lit, hu] at e1
  have hlt : b < W.heap.size := by
    unfold World.cell? at e1
    split at e1
    · rename_i h2; exact (Array.getElem?_eq_some_iff.1 h2).1
    · cases e1
  have := hw.old_same b hlt
  unfold World.cell? at e1 ⊢
  simp only [this]
  exact e1
end
end Go.Sl
