/-
  What an argument reads as, it reads as again where the heap's old blocks lie as they lay: for bools, numbers, texts, slices and structs of them | The device: what a pointer to one says of the heap; its small functions | Code with labels in it to which nothing jumps | Deferred calls of functions; results that lie in cells | A slice of bools, and one of bytes, as a row hands them in: a list that is read | The device: making one, writing, syncing, what is open, a loss of power | A slice of whatever plain elements, as a row hands it in: a list that is read, element by element | The device: writing, syncing, what is open | The device: syncing, what is open
-/
import Derived.Test.YtjlofdodiaklaaaGreatYal
import Derived.Test.YtjlofdodiaklaaaGreatYak
import Derived.Test.YtjlofdodiaklaaaGreatYai
import Derived.Test.YtjlofdodiaklaaaGreatYaj
import Derived.Deep.Grids
set_option linter.unusedVariables false
set_option linter.unusedSimpArgs false
namespace Go.Sl
open Go Go.ChangeShapes Go.WideShapes
theorem mapM_again {α β : Type} {f g : α → Option β} : ∀ {l : List α} {xs : List β}, l.mapM f = some xs → (∀ a y, a ∈ l → f a = some y → y ∈ xs → g a = some y) → l.mapM g = some xs
  | [], xs, h, _ => by simpa using h
  | a :: l, xs, h, hg => by
    rw [List.mapM_cons] at h ⊢
    cases ha : f a with
    | none => rw [ha] at h; simp at h
    | some y =>
      rw [ha] at h
      cases hl : l.mapM f with
      | none => rw [hl] at h; simp at h
      | some ys =>
        rw [hl] at h
        have h : y :: ys = xs := by simpa using h
        subst h
        rw [hg a y List.mem_cons_self ha List.mem_cons_self, mapM_again hl fun b z hm hb hz => hg b z (List.mem_cons_of_mem _ hm) hb (List.mem_cons_of_mem _ hz)]
        rfl
theorem mapM_range {β : Type} : ∀ (xs : List β) (f : Nat → Option β), (∀ i, i < xs.length → f i = xs[i]?) → (List.range xs.length).mapM f = some xs
  | [], _, _ => rfl
  | x :: xs, f, h => by
    have h0 := h 0 (by simp)
    have hr := mapM_range xs (fun i => f (i + 1)) fun i hi => by simpa using h (i + 1) (by simpa using hi)
    rw [List.length_cons, List.range_succ_eq_map, List.mapM_cons, h0, List.mapM_map]
    simp only [List.getElem?_cons_zero]
    have : (List.range xs.length).mapM (f ∘ Nat.succ) = some xs := hr
    rw [this]; rfl
def plain (P : Program) : Nat → TypeId → Bool
  | 0, _ => false
  | n + 1, t => match P.underlying t with
    | some .bool => true
    | some (.int _) => true
    | some .string => true
    | some (.slice e) => Nat.blt 0 (P.cellsOf e) && plain P n e
    | some (.struct fs) => fs.toList.all fun f => plain P n f.type
    | _ => false
section
variable {H : Type} {enc : TypeId × Value → H} {P : Program} {W W' : World} {sp : Nat → Bool}
theorem cells_again (hsame : ∀ i, i < W.heap.size → W'.heap[i]? = W.heap[i]?) {a : Addr} {n : Nat} {cs : List Value} (h : W.cells? 0 a n = some cs) (hn : 0 < n) : W'.cells? 0 a n = some cs := by
  have hlt := World.cells?_block h hn
  have e : ∀ i, W'.cell? (a.add i) = W.cell? (a.add i) := fun i => by
    have hb : (a.add i).block = a.block := by simp only [Addr.add]; split <;> rfl
    unfold World.cell?
    rw [hb, hsame _ hlt]
  unfold World.cells? at h ⊢
  simpa only [e] using h
theorem trod_again (hsame : ∀ i, i < W.heap.size → W'.heap[i]? = W.heap[i]?) : ∀ (m n : Nat) (t : TypeId) (cs : List Value) (x : DataW H × List MemPlace), plain P m t = true → DataW.trod enc P W 0 (fun _ => true) true n t cs = some x → (∀ p ∈ x.2, sp p.block = true) →
    DataW.trod enc P W' 0 sp true n t cs = some x
  | 0, _, _, _, _, hp, _, _ => by simp [plain] at hp
  | m + 1, 0, _, _, _, _, h, _ => by simp [DataW.trod] at h
  | m + 1, n + 1, t, cs, x, hp, h, hs => by
    simp only [plain] at hp
    split at hp
    · rename_i ht
      unfold DataW.trod at h ⊢
      rw [ht] at h ⊢
      split at h <;> simp_all
    · rename_i k ht
      unfold DataW.trod at h ⊢
      rw [ht] at h ⊢
      split at h <;> simp_all
    · rename_i ht
      unfold DataW.trod at h ⊢
      rw [ht] at h ⊢
      split at h <;> simp_all
    · rename_i e ht
      simp only [Bool.and_eq_true, Nat.blt_eq] at hp
      obtain ⟨hc, hp⟩ := hp
      rcases DataW.trod_slice ht h with ⟨rfl, rfl⟩ | ⟨a, len, cap, elems, rest, n', hn, rfl, rfl, hb, hl, hm, hlen, hel, hsp, hns⟩
      · unfold DataW.trod
        simp only [ht]
      · cases hn
        obtain ⟨hrl, hre⟩ := hsp rfl
        have again : ∀ (i : Nat) (y : DataW H × List MemPlace), y ∈ elems ++ rest → (W.cells? 0 (a.add (i * P.cellsOf e)) (P.cellsOf e)).bind (DataW.trod enc P W 0 (fun _ => true) true n e) = some y → (W'.cells? 0 (a.add (i * P.cellsOf e)) (P.cellsOf e)).bind (DataW.trod enc P W' 0 sp true n e) = some y := by
          intro i y hy h1
          obtain ⟨cs', h2, h3⟩ := Option.bind_eq_some_iff.1 h1
          rw [cells_again hsame h2 hc]
          refine trod_again hsame m n e cs' y hp h3 fun p hpp => hs p ?_
          refine List.mem_append_right _ (List.mem_flatMap.2 ⟨y, hy, hpp⟩)
        have h1 : (List.range len).mapM (fun i => (W'.cells? 0 (a.add (i * P.cellsOf e)) (P.cellsOf e)).bind (DataW.trod enc P W' 0 sp true n e)) = some elems := by
          rw [← hlen]
          refine mapM_range elems _ fun i hi => ?_
          have h2 := hel i (by omega)
          rw [List.getElem?_eq_getElem hi] at h2 ⊢
          exact again i _ (List.mem_append_left _ (List.getElem_mem hi)) h2
        have h3 : (List.range (cap - len)).mapM (fun j => (W'.cells? 0 (a.add ((len + j) * P.cellsOf e)) (P.cellsOf e)).bind (DataW.trod enc P W' 0 sp true n e)) = some rest := by
          rw [← hrl]
          refine mapM_range rest _ fun j hj => ?_
          have h2 := hre j (by omega)
          rw [List.getElem?_eq_getElem hj] at h2 ⊢
          exact again (len + j) _ (List.mem_append_right _ (List.getElem_mem hj)) h2
        have h4 : (if sp a.block = true then (List.range (cap - len)).mapM (fun j => (W'.cells? 0 (a.add ((len + j) * P.cellsOf e)) (P.cellsOf e)).bind (DataW.trod enc P W' 0 sp true n e)) else some []) = some rest := by
          by_cases hz : sp a.block = true
          · rw [if_pos hz, h3]
          · rw [if_neg hz]
            cases rest with
            | nil => rfl
            | cons r rest =>
              exfalso
              refine hz (hs (.cell a.block (a.off + 0)) (List.mem_append_left _ (List.mem_map.2 ⟨0, List.mem_range.2 ?_, rfl⟩)))
              exact Nat.mul_pos (by simp only [List.length_cons]; omega) hc
        unfold DataW.trod
        simp only [ht]
        rw [if_pos ⟨hb, hl, hm⟩, h1]
        simp only [Option.bind_some]
        rw [h4]
        rfl
    · rename_i fs ht
      unfold DataW.trod at h ⊢
      rw [ht] at h ⊢
      simp only [] at h ⊢
      split at h
      · rename_i hlen
        rw [if_pos hlen]
        obtain ⟨xs, h1, rfl⟩ := Option.map_eq_some_iff.1 h
        have hx : xs ≠ [] ∨ xs = [] := by cases xs <;> simp
        rw [mapM_again (g := fun f => DataW.trod enc P W' 0 sp true n f.type ((cs.drop f.offset).take (P.cellsOf f.type))) h1 ?_]
        · rfl
        · intro f y hf hy hyx
          exact trod_again hsame m n f.type _ y (List.all_eq_true.1 hp f hf) hy fun p hpp => hs p (List.mem_flatMap.2 ⟨y, hyx, hpp⟩)
      · cases h
    · cases hp
theorem trodAll_again (hsame : ∀ i, i < W.heap.size → W'.heap[i]? = W.heap[i]?) (m : Nat) : ∀ {ts : List TypeId} {vs : List Value} {ds : List (DataW H)} {ps : List MemPlace}, ts.all (plain P m) = true → DataW.TrodAll enc P W 0 (fun _ => true) true ts vs ds ps → (∀ p ∈ ps, sp p.block = true) → DataW.TrodAll enc P W' 0 sp true ts vs ds ps
  | [], [], [], _, _, h, _ => h
  | t :: ts, v :: vs, d :: ds, _, hp, ⟨a, b, ⟨n, h1⟩, h2, e⟩, hs => by
    subst e
    simp only [List.all_cons, Bool.and_eq_true] at hp
    exact ⟨a, b, ⟨n, trod_again hsame m n t _ _ hp.1 h1 fun p hpp => hs p (List.mem_append_left _ hpp)⟩, trodAll_again hsame m hp.2 h2 fun p hpp => hs p (List.mem_append_right _ hpp), rfl⟩
  | [], _ :: _, _, _, _, h, _ => h.elim
  | [], [], _ :: _, _, _, h, _ => h.elim
  | _ :: _, [], _, _, _, h, _ => h.elim
  | _ :: _, _ :: _, [], _, _, h, _ => h.elim
end
end Go.Sl

namespace Go.Proofs.YtjlofdodiaklaaaGreat
open Go Go.Sl
attribute [local irreducible] LooksAt

abbrev ptr (p : Nat) : Value := .pointer (some ⟨p, 0, none⟩)
abbrev int (n : Int) : Value := .int .i64 n
abbrev bool (b : Bool) : Value := .bool b

structure Dev where
  S : List (List UInt8)
  O : List (Nat × List UInt8)
  reads : Int
  fuse : Int
structure Dev.ok (D : Dev) : Prop where
  pos : 0 < D.S.length
  few : D.S.length ≤ 8192
  sec : ∀ s ∈ D.S, s.length = 256
  op : ∀ x ∈ D.O, x.2.length = 256 ∧ x.1 < D.S.length
  fuse0 : 0 ≤ D.fuse
  fuse1 : D.fuse ≤ 2305843009213693952
def secV (S : List (List UInt8)) : List Value := S.flatMap bytesV
def opB (x : Nat × List UInt8) : List Value := .int .i64 (x.1 : Int) :: bytesV x.2
def opV (O : List (Nat × List UInt8)) : List Value := O.flatMap opB
def dev (p : Nat) (D : Dev) : Assn := Sl.ex fun vs : Value => Sl.ex fun vo : Value => star [blk p [vs, vo, .int .i64 D.reads, .int .i64 D.fuse] 67, sl vs 112 256 D.S.length (secV D.S), sl vo 114 257 D.O.length (opV D.O)]
section
variable {F : List Assn} {p : Nat} {D : Dev} {w : World}
theorem dev_open (hs : Sat (dev p D :: F) w) : ∃ vs vo, Sat (blk p [vs, vo, .int .i64 D.reads, .int .i64 D.fuse] 67 :: sl vs 112 256 D.S.length (secV D.S) :: sl vo 114 257 D.O.length (opV D.O) :: F) w := by
  obtain ⟨vs, hs⟩ := Sat.ex_iff.1 hs
  obtain ⟨vo, hs⟩ := Sat.ex_iff.1 hs
  exact ⟨vs, vo, hs.unstar⟩
theorem dev_shut {vs vo : Value} (hs : Sat (blk p [vs, vo, .int .i64 D.reads, .int .i64 D.fuse] 67 :: sl vs 112 256 D.S.length (secV D.S) :: sl vo 114 257 D.O.length (opV D.O) :: F) w) : Sat (dev p D :: F) w :=
  Sat.ex_iff.2 ⟨vs, Sat.ex_iff.2 ⟨vo, Sat.restar (l := [_, _, _]) hs⟩⟩
end

theorem size_spec {F : List Assn} {p : Nat} {D : Dev} {w : World} (hs : Sat (dev p D :: F) w) :
    Ret Tryz.prog 23 [ptr p] w fun v w' => v = int D.S.length ∧ w' = w := by
  obtain ⟨vs, vo, hs⟩ := dev_open hs
  obtain ⟨_, q, c, rfl, hc⟩ := (hs.pull 1 rfl).sl_len
  refine Ret.enter [(true, ptr p)] _ Tryz.func23 rfl Tryz.ntmps23 rfl ?_
  repeat first | refine zg tab rfl rfl ?_ | refine zl (za hs rfl) ?_
  refine MC.ret rfl ?_
  exact ⟨rfl, rfl⟩
def Dev.wrong (D : Dev) (k : Int) (b : Int) : Int := if k < 0 ∨ (D.S.length : Int) ≤ k then 4 else if b ≠ 256 then 2 else if D.fuse = 1 then 150 else 0
theorem ready_spec {F : List Assn} {p : Nat} {D : Dev} {w : World} (hs : Sat (dev p D :: F) w) (hD : D.ok) (k b : Int) :
    Ret Tryz.prog 53 [ptr p, int k, int b] w fun v w' => v = int (D.wrong k b) ∧ w' = w := by
  have hsz := size_spec hs
  obtain ⟨vs, vo, hs⟩ := dev_open hs
  obtain ⟨_, q, c, rfl, hc⟩ := (hs.pull 1 rfl).sl_len
  have hpos := hD.pos
  refine Ret.enter [(true, ptr p), (true, int k), (true, int b)] _ Tryz.func53 rfl Tryz.ntmps53 rfl ?_
  repeat first | refine zg tab rfl rfl ?_ | refine zl (za hs rfl) ?_
  refine MC.does true (does_call rfl (hsz)) rfl ?_
  rintro _ w' ⟨rfl, rfl⟩
  repeat first | refine zg tab rfl rfl ?_ | refine zl (za hs rfl) ?_
  refine MC.cond rfl (fun h => absurd h (by omega)) (fun _ => ?_)
  repeat first | refine zg tab rfl rfl ?_ | refine zl (za hs rfl) ?_
  refine MC.part rfl rfl (fun h1 => ?_) (fun h1 => ?_)
  · repeat first | refine zg tab rfl rfl ?_ | refine zl (za hs rfl) ?_
    refine MC.ret rfl ?_
    exact ⟨by simp [Dev.wrong, h1, tup], rfl⟩
  repeat first | refine zg tab rfl rfl ?_ | refine zl (za hs rfl) ?_
  refine MC.cond rfl (fun h2 => ?_) (fun h2 => ?_)
  · repeat first | refine zg tab rfl rfl ?_ | refine zl (za hs rfl) ?_
    refine MC.ret rfl ?_
    exact ⟨by simp [Dev.wrong, h2, tup], rfl⟩
  repeat first | refine zg tab rfl rfl ?_ | refine zl (za hs rfl) ?_
  refine MC.cond rfl (fun h3 => ?_) (fun h3 => ?_)
  · repeat first | refine zg tab rfl rfl ?_ | refine zl (za hs rfl) ?_
    refine MC.ret rfl ?_
    exact ⟨by simp [Dev.wrong, h1, h2, h3, tup], rfl⟩
  repeat first | refine zg tab rfl rfl ?_ | refine zl (za hs rfl) ?_
  refine MC.cond rfl (fun h4 => ?_) (fun h4 => ?_)
  · repeat first | refine zg tab rfl rfl ?_ | refine zl (za hs rfl) ?_
    refine MC.ret rfl ?_
    exact ⟨by simp [Dev.wrong, h1, h2, Decidable.not_not.1 h3, h4, tup], rfl⟩
  repeat first | refine zg tab rfl rfl ?_ | refine zl (za hs rfl) ?_
  refine MC.ret rfl ?_
  exact ⟨by simp [Dev.wrong, h1, h2, Decidable.not_not.1 h3, h4, tup], rfl⟩

def burnt (f : Int) : Int := if 1 < f then f - 1 else f
theorem burn_spec {F : List Assn} {p : Nat} {D : Dev} {w : World} (hs : Sat (dev p D :: F) w) (hD : D.ok) :
    Ret Tryz.prog 77 [ptr p] w fun _ w' => Sat (dev p { D with fuse := burnt D.fuse } :: F) w' := by
  obtain ⟨vs, vo, hs⟩ := dev_open hs
  have h0 := hD.fuse0
  have h1 := hD.fuse1
  refine Ret.enter [(true, ptr p)] _ Tryz.func77 rfl Tryz.ntmps77 rfl ?_
  repeat first | refine zg tab rfl rfl ?_ | refine zl (za hs rfl) ?_
  refine MC.cond rfl (fun h => ?_) (fun h => ?_)
  · repeat first | refine zg tab rfl rfl ?_ | refine zl (za hs rfl) ?_
    refine MC.does true (does_store1 hs rfl rfl rfl (by first | decide | (simp; done) | (simp; omega))) rfl ?_; intro _ w hs
    repeat first | refine zg tab rfl rfl ?_ | refine zl (za hs rfl) ?_
    refine MC.end_ rfl ?_
    refine dev_shut (vs := vs) (vo := vo) ?_
    rw [show burnt D.fuse = D.fuse - 1 from if_pos h]
    exact hs
  · repeat first | refine zg tab rfl rfl ?_ | refine zl (za hs rfl) ?_
    refine MC.end_ rfl ?_
    refine dev_shut (vs := vs) (vo := vo) ?_
    rw [show burnt D.fuse = D.fuse from if_neg h]
    exact hs

def Dev.cut (D : Dev) (n : Int) : Dev := if n < 0 then D else { D with fuse := min n 1152921504606846976 + 1 }
theorem cut_spec {F : List Assn} {p : Nat} {D : Dev} {w : World} (hs : Sat (dev p D :: F) w) (hD : D.ok) (n : Int) :
    Ret Tryz.prog 9 [ptr p, int n] w fun v w' => v = int (if n < 0 then 2 else 0) ∧ Sat (dev p (D.cut n) :: F) w' := by
  have hsz := size_spec hs
  have hpos := hD.pos
  refine Ret.enter [(true, ptr p), (true, int n)] _ Tryz.func9 rfl Tryz.ntmps9 rfl ?_
  repeat first | refine zg tab rfl rfl ?_ | refine zl (za hs rfl) ?_
  refine MC.does true (does_call rfl (hsz)) rfl ?_
  rintro _ w' ⟨rfl, rfl⟩
  repeat first | refine zg tab rfl rfl ?_ | refine zl (za hs rfl) ?_
  refine MC.cond rfl (fun h => absurd h (by omega)) (fun _ => ?_)
  repeat first | refine zg tab rfl rfl ?_ | refine zl (za hs rfl) ?_
  refine MC.cond rfl (fun h => ?_) (fun h => ?_)
  · repeat first | refine zg tab rfl rfl ?_ | refine zl (za hs rfl) ?_
    refine MC.ret rfl ?_
    exact ⟨by simp [h, tup], by simpa [Dev.cut, h] using hs⟩
  · obtain ⟨vs, vo, hs⟩ := dev_open hs
    repeat first | refine zg tab rfl rfl ?_ | refine zl (za hs rfl) ?_
    refine MC.does true (does_store1 hs rfl rfl rfl (by first | decide | (simp; done) | (simp; omega))) rfl ?_; intro _ w hs
    repeat first | refine zg tab rfl rfl ?_ | refine zl (za hs rfl) ?_
    refine MC.ret rfl ?_
    refine ⟨by simp [h, tup], ?_⟩
    refine dev_shut (vs := vs) (vo := vo) ?_
    simp only [Dev.cut, h, if_false]
    exact hs
end Go.Proofs.YtjlofdodiaklaaaGreat

namespace Go.Sl
open Go
section
variable {P : Program} {b : Frame} {a : Act} {k : List Item} {cs : List Frame} {w : World} {Q : Exit → Act → World → Prop} {F : Fence} {n : Nat}
end
section
variable {P : Program} {r : Option Nat} {fr : Fr} {d : Option Tmp} {ty : TypeId} {pos : String} {aft : Array Edge} {g : Option (Nat × Bool)} {t e : TypeId}
end
end Go.Sl

namespace Go.Sl
open Go

def RetD (P : Program) (f : FuncId) (args : List Value) (w : World) (Post : World → Prop) : Prop :=
  CallsDIn (Wd none) 0 P f args.toArray .returning w fun e u' w' => u' = .returning ∧ ∃ v, e = .returned v ∧ Post w'
theorem RetD.enter {P : Program} {f : FuncId} {fn : Func} {c : Code} {w : World} {Post : World → Prop} (args : List (Bool × Value)) (n : Nat) (hf : P.funcs[f]? = some fn) (hb : fn.body = some c) (hn : fn.ntmps = n) (hargs : Nat.ble args.length n = true)
    (h : MC ⟨P, none, n, bodyPost P fn fun e w' => ∃ v, e = .returned v ∧ (fun (_ : Value) w' => Post w') v w'⟩ [] [.code c] (frOf 0 args) w) : RetD P f (args.map (·.2)) w Post := by
  refine callsDIn_of_wp (R := fun e w' => ∃ v, e = .returned v ∧ Post w') hf hb trivial (h _ ⟨?_, rfl, fun t v e => ?_⟩) rfl
  · have : args.length ≤ n := by simpa using hargs
    subst hn; simp; omega
  · obtain ⟨_, h2⟩ := lk_frOf e
    have h2 : (args.map (·.2))[t]? = some v := by simpa using h2
    have hlt : t < (args.map (·.2)).length := by
      rcases Nat.lt_or_ge t (args.map (·.2)).length with h' | h'
      · exact h'
      · rw [List.getElem?_eq_none h'] at h2; cases h2
    rw [Array.getElem?_append_left (by simpa using hlt)]
    simpa using h2
abbrev later (f : FuncId) (args cap : List Value) : Deferred := { target := .fn (.func f) cap.toArray, args := args.toArray }
section
variable {X : Cx} {P : Program} {n : Nat} {ds : List Deferred} {fr : Fr} {w : World} {fn : Func} {Post : Value → World → Prop} {k : List It}
theorem MC.defer {ops : Array Oper} {R : List (Nat × Oper)} {i : Nat} {ty : TypeId} {pos : String} {aft : Array Edge} {x : Operand} {args : Array Operand} {ts : Array TypeId} {f : FuncId} {first cap vs : List Value} (hr : X.r = none) (hx : ev fr x = some (.func (.func f) first.toArray cap.toArray)) (he : evs fr args.toList = some vs)
    (h : MC X (later f (first ++ vs) cap :: ds) (.ops true ops [] R :: k) fr w) : MC X ds (.ops true ops [] ((i, ⟨none, .defer { callee := .value x, args := args, argTypes := ts }, ty, pos, aft, none⟩) :: R) :: k) fr w := fun a hf => by
  refine .inr ⟨rfl, by simp, fun Q' hQ' => ?_⟩
  cases hQ' rfl
  refine ⟨fun _ _ => trivial, ?_⟩
  have e1 : args.map a.eval = vs.toArray := by apply Array.ext'; simpa using hf.evs he
  have e2 : (Oper.semAt (Wd X.r).round a.eval ⟨none, .defer { callee := .value x, args := args, argTypes := ts }, ty, pos, aft, none⟩).run X.P w = .ok (.defer (later f (first ++ vs) cap)) w := by
    rw [hr]
    have e1' : Array.map (fun x => a.eval x) args = vs.toArray := e1
    simp [Oper.semAt, Wd, execOp, resolve, Deferred.ofValue, hf.ev hx, e1']
  rw [e2]
  exact ⟨by simp, h _ ⟨hf.size, by simp [Act.put, hf.defers], fun t v e => hf.slot t v e⟩⟩
theorem leavesD {a : Act} {f : FuncId} [hF : Fun P f] {args cap : List Value} {Q : World → Prop} (hf : Fits n [later f args cap] fr a) (hc : RetD P f (args ++ cap) w Q) (hres : ∀ w', Q w' → ∀ a, Fits n [later f args cap] fr a → ∃ v, (results fn a.tmps).run P w' = .ok v w' ∧ Post v w') :
    LeavesInM (Wd none) 0 P fn a.tmps (fun e w' => ∃ v, e = .returned v ∧ Post v w') a.defers .returning w := by
  rw [hf.defers]
  refine ⟨by simp, .inr ⟨fun h => by simp [Wd] at h, _, _, f, (args ++ cap).toArray, rfl, ?_, fun _ _ => trivial, hc.mono ?_⟩⟩
  · have := hF.h (args ++ cap).toArray w
    simp [invoke, this]
  · rintro e u' w' ⟨rfl, v, rfl, hq⟩
    obtain ⟨v, h1, h2⟩ := hres w' hq a hf
    exact ⟨v, h1, v, rfl, h2⟩
theorem MC.retD {f : FuncId} [hF : Fun P f] {args cap : List Value} {Q : World → Prop} (hc : RetD P f (args ++ cap) w Q) (hres : ∀ w', Q w' → ∀ a, Fits n [later f args cap] fr a → ∃ v, (results fn a.tmps).run P w' = .ok v w' ∧ Post v w') :
    MC ⟨P, none, n, bodyPostM (Wd none) 0 P fn fun e w' => ∃ v, e = .returned v ∧ Post v w'⟩ [later f args cap] (.code .ret :: k) fr w := fun _ hf => wpIn_ret (by rw [post_ret]; exact leavesD hf hc hres)
theorem run_results2 {l : List Assn} {b1 b2 s1 s2 c1 c2 : Nat} {t1 t2 e1 e2 : TypeId} {v1 v2 : Value} {z1 z2 : List Value} {G1 G2 : List Value → List Assn} {a : Act} [TyI P t1 false 1 c1 z1] [TyI P t2 false 1 c2 z2] [hA1 : At l b1 [v1] e1 G1] [hA2 : At l b2 [v2] e2 G2]
    (hf : Fits n ds fr a) (hr : fn.results = #[.cell s1 t1, .cell s2 t2]) (hs : Sat l w) (hx1 : lk fr s1 = some (.pointer (some ⟨b1, 0, none⟩))) (hx2 : lk fr s2 = some (.pointer (some ⟨b2, 0, none⟩))) : (results fn a.tmps).run P w = .ok (.tuple #[v1, v2]) w := by
  have h : ∀ (t : TypeId) (b c : Nat) (e : TypeId) (z : List Value) (v : Value) (G : List Value → List Assn) [TyI P t false 1 c z] [hA : At l b [v] e G], (loadVar t ⟨b, 0, none⟩).run P w = .ok v w := fun t b c e z v G _ hA => by
    have hC := At.sat (h := hA) hs
    exact run_loadVar (P := P) (t := t) (w := w) (b := b) 0 [v] rfl (fun j u hj => by rw [hC.blk_cell]; rw [Nat.zero_add]; exact hj)
  have h1 := h t1 b1 c1 e1 z1 v1 G1
  have h2 := h t2 b2 c2 e2 z2 v2 G2
  unfold results
  rw [hr]
  simp [hf.slot s1 _ hx1, hf.slot s2 _ hx2, Array.getD_eq_getD_getElem?, asAddr, h1, h2]
end
end Go.Sl

namespace Go.Sl
open Go Go.ChangeShapes Go.WideShapes
section
variable {H : Type} {enc : TypeId × Value → H} {P : Program} {W : World}
theorem rd_old {a : Addr} {xs : List Value} (h : ∀ i, i < xs.length → W.cell? (a.add i) = xs[i]?) (h0 : 0 < xs.length) : ∃ b o, (some a : Option Addr) = some ⟨b, o, none⟩ ∧ Rd [old W] b o xs := by
  obtain ⟨b, o, s⟩ := a
  have e0 := h 0 h0
  rw [List.getElem?_eq_getElem h0] at e0
  have hs : s = none := by
    cases s with
    | none => rfl
    | some s => simp [Addr.add, World.cell?] at e0; split at e0 <;> simp at e0
  subst hs
  refine ⟨b, o, rfl, fun w hw j u hu => ?_⟩
  have hj : j < xs.length := (List.getElem?_eq_some_iff.1 hu).1
  have e1 := h j hj
  rw [Addr.add_lit, hu] at e1
  have hlt : b < W.heap.size := by
    unfold World.cell? at e1
    split at e1
    · rename_i h2; exact (Array.getElem?_eq_some_iff.1 h2).1
    · cases e1
  have := hw.old_same b hlt
  unfold World.cell? at e1 ⊢
  simp only [this]
  exact e1
end
end Go.Sl

namespace Go.Proofs.YtjlofdodiaklaaaGreat
open Go Go.Sl
attribute [local irreducible] LooksAt

abbrev byte (c : UInt8) : Value := .int .u8 (c.toNat : Int)
def Dev.new (n : Nat) : Dev := ⟨List.replicate n (many 256 0), [], 0, 0⟩
theorem Dev.new_ok {n : Nat} (h1 : 1 ≤ n) (h2 : n ≤ 8192) : (Dev.new n).ok :=
  { pos := by simp only [Dev.new, List.length_replicate]; omega
    few := by simp only [Dev.new, List.length_replicate]; omega
    sec := fun s hs => by
      have := (List.mem_replicate.1 hs).2
      rw [this]; simp
    op := fun x hx => by cases hx
    fuse0 := by simp [Dev.new]
    fuse1 := by simp [Dev.new] }
theorem new_spec {F : List Assn} {w : World} (hs : Sat F w) (n : Nat) (h1 : 1 ≤ n) (h2 : n ≤ 8192) :
    Ret Tryz.prog 4 [int n] w fun v w' => ∃ p, v = .tuple #[ptr p, int 0] ∧ Sat (dev p (Dev.new n) :: F) w' := by
  refine Ret.enter [(true, int n)] _ Tryz.func4 rfl Tryz.ntmps4 rfl ?_
  repeat first | refine zg tab rfl rfl ?_ | refine zl (za hs rfl) ?_
  refine MC.part rfl rfl (fun h => absurd h (by omega)) (fun _ => ?_)
  repeat first | refine zg tab rfl rfl ?_ | refine zl (za hs rfl) ?_
  refine MC.cond rfl (fun h => absurd h (by omega)) (fun _ => ?_)
  repeat first | refine zg tab rfl rfl ?_ | refine zl (za hs rfl) ?_
  refine MC.does true (does_makeSlice hs rfl rfl (Nat.le_refl _) (by omega) (by omega)) rfl ?_
  rintro _ w ⟨b, rfl, hs⟩
  refine MC.pure (f := true) (po_build (ls := [(0, [.slice (some ⟨b, 0, none⟩) n n])]) rfl rfl ⟨⟨_, rfl, by simp⟩, trivial⟩ rfl) rfl ?_
  refine MC.does true (does_box hs rfl rfl) rfl ?_
  rintro _ w ⟨p, rfl, hs⟩
  repeat first | refine zg tab rfl rfl ?_ | refine zl (za hs rfl) ?_
  refine MC.ret rfl ?_
  refine ⟨p, rfl, dev_shut (vs := .slice (some ⟨b, 0, none⟩) n n) (vo := .slice none 0 0) ?_⟩
  have e : rep n (reps 256 (.int .u8 0)) = secV (Dev.new n).S := by rw [← bytesV_zeros, rep_flatMap]; rfl
  rw [e] at hs
  have hl : (secV (Dev.new n).S).length = n * 256 := by rw [← e, rep_length]; simp
  have hS : (Dev.new n).S.length = n := by simp [Dev.new]
  rw [hS]
  have h3 := hs.swap
  rw [← List.append_nil (secV (Dev.new n).S)] at h3
  have h4 := h3.sl_mk (n := n) (c := n) (size := 256) (Nat.le_refl _) hl (by simp [hl])
  exact (Sat.sl_nil h4 114 257).pickF 3 [2, 1, 0] rfl rfl
end Go.Proofs.YtjlofdodiaklaaaGreat

namespace Go.Sl
open Go Go.ChangeShapes Go.WideShapes
section
variable {H : Type} {enc : TypeId × Value → H} {P : Program} {W : World}
theorem rows_cell {α : Type} {f : α → List Value} {c : Nat} {xs : List α} (hc : ∀ x ∈ xs, (f x).length = c) {k r : Nat} (hk : k < xs.length) (hr : r < c) : (xs.flatMap f)[k * c + r]? = (f xs[k])[r]? := by
  have h := rows_get hc hk
  have h2 : (((xs.flatMap f).drop (k * c)).take c)[r]? = (f xs[k])[r]? := by rw [h]
  rw [List.getElem?_take, if_pos hr, List.getElem?_drop] at h2
  exact h2
theorem open_slice_rd {α : Type} [Inhabited α] {t e : TypeId} {c : Nat} (row : α → List Value) (good : α → Prop) (ht : P.underlying t = some (.slice e)) (hc : P.cellsOf e = c) (h0 : 0 < c)
    (dec : ∀ (n : Nat) (cs : List Value) (x : DataW H × List MemPlace), DataW.trod enc P W 0 (fun _ => true) true n e cs = some x → ∃ y, cs = row y ∧ (row y).length = c ∧ good y)
    {n : Nat} {cs : List Value} {x : DataW H × List MemPlace} (h : DataW.trod enc P W 0 (fun _ => true) true n t cs = some x) :
    ∃ (q : Option Addr) (k : Nat) (ys : List α), cs = [.slice q ys.length k] ∧ ys.length ≤ k ∧ k ≤ maxLen ∧ (∀ y ∈ ys, good y ∧ (row y).length = c) ∧ RdS [old W] c (.slice q ys.length k) ys.length (ys.flatMap row) := by
  rcases DataW.trod_slice ht h with ⟨rfl, rfl⟩ | ⟨a, len, cap, elems, rest, n', hn, rfl, rfl, hb, hl, hm, hlen, hel, _, _⟩
  · exact ⟨none, 0, [], rfl, Nat.le_refl _, Nat.zero_le _, fun y hy => absurd hy (by simp), ⟨none, 0, rfl, Nat.le_refl _, by simp, fun h => by simp at h⟩⟩
  subst hc
  have each : ∀ i, i < len → ∃ y : α, W.cells? 0 (a.add (i * P.cellsOf e)) (P.cellsOf e) = some (row y) ∧ (row y).length = P.cellsOf e ∧ good y := fun i hi => by
    have h1 := hel i hi
    rw [List.getElem?_eq_getElem (show i < elems.length by omega)] at h1
    obtain ⟨cs', h2, h3⟩ := Option.bind_eq_some_iff.1 h1
    obtain ⟨y, rfl, hy, hg⟩ := dec n' cs' _ h3
    exact ⟨y, h2, hy, hg⟩
  obtain ⟨f, hf⟩ := Go.Deep.choose_lt each
  have hys : ((List.range len).map f).length = len := by simp
  have hrow : ∀ y ∈ (List.range len).map f, good y ∧ (row y).length = P.cellsOf e := fun y hy => by
    obtain ⟨i, hi, rfl⟩ := List.mem_map.1 hy
    obtain ⟨_, h2, h3⟩ := hf i (List.mem_range.1 hi)
    exact ⟨h3, h2⟩
  have hxl : (((List.range len).map f).flatMap row).length = len * P.cellsOf e := by
    rw [rows_length (fun y hy => (hrow y hy).2), hys]
  refine ⟨some a, cap, (List.range len).map f, by rw [hys], by rw [hys]; exact hl, hm, hrow, some a, cap, by rw [hys], by rw [hys]; exact hl, by rw [hxl, hys], fun hp => rd_old (fun j hj => ?_) (by rw [hxl]; rw [hys] at hp; exact hp)⟩
  rw [hxl] at hj
  have hi : j / P.cellsOf e < len := Nat.div_lt_of_lt_mul (by rw [Nat.mul_comm]; exact hj)
  have hr : j % P.cellsOf e < P.cellsOf e := Nat.mod_lt _ h0
  have hj' : j / P.cellsOf e * P.cellsOf e + j % P.cellsOf e = j := by rw [Nat.mul_comm]; exact Nat.div_add_mod _ _
  have h1 := rows_cell (f := row) (xs := (List.range len).map f) (fun y hy => (hrow y hy).2) (k := j / P.cellsOf e) (r := j % P.cellsOf e) (by rw [hys]; exact hi) hr
  rw [hj'] at h1
  rw [h1]
  obtain ⟨h2, _, _⟩ := hf _ hi
  obtain ⟨_, _, h3⟩ := World.cells?_some h2
  have h4 := h3 _ hr
  rw [Go.Deep.add_add, hj'] at h4
  rw [h4]
  simp
theorem byte_of {a : Int} (w : (Lit.int .u8 a).wf = true) : Value.int .u8 a = .int .u8 ((UInt8.ofNat a.toNat).toNat : Int) := by
  have h : 0 ≤ a ∧ a ≤ 255 := by simpa [Lit.wf, IntKind.min, IntKind.max, IntKind.signed, IntKind.bits] using w
  have e : ((UInt8.ofNat a.toNat).toNat : Int) = a := by
    rw [UInt8.toNat_ofNat']
    omega
  rw [e]
theorem flat_one {α : Type} (f : α → Value) (l : List α) : l.flatMap (fun x => [f x]) = l.map f := by
  induction l with
  | nil => rfl
  | cons x l ih => simp [ih]
theorem open_bytes_rd {t e : TypeId} (ht : P.underlying t = some (.slice e)) (he : P.underlying e = some (.int .u8)) (hc : P.cellsOf e = 1) {n : Nat} {cs : List Value} {x : DataW H × List MemPlace}
    (h : DataW.trod enc P W 0 (fun _ => true) true n t cs = some x) : ∃ (q : Option Addr) (k : Nat) (l : List UInt8), cs = [.slice q l.length k] ∧ l.length ≤ k ∧ k ≤ maxLen ∧ RdS [old W] 1 (.slice q l.length k) l.length (bytesV l) := by
  obtain ⟨q, k, l, h1, h2, h3, _, h4⟩ := open_slice_rd (α := UInt8) (fun c => [.int .u8 (c.toNat : Int)]) (fun _ => True) ht hc (by omega) (fun n cs x hx => by
    obtain ⟨m, rfl, _, hw⟩ := DataW.trod_int he hx
    exact ⟨UInt8.ofNat m.toNat, by rw [byte_of hw], rfl, trivial⟩) h
  rw [flat_one] at h4
  exact ⟨q, k, l, h1, h2, h3, h4⟩
theorem open_bools_rd' {t e : TypeId} (ht : P.underlying t = some (.slice e)) (he : P.underlying e = some .bool) (hc : P.cellsOf e = 1) {n : Nat} {cs : List Value} {x : DataW H × List MemPlace}
    (h : DataW.trod enc P W 0 (fun _ => true) true n t cs = some x) : ∃ (q : Option Addr) (k : Nat) (l : List Bool), cs = [.slice q l.length k] ∧ l.length ≤ k ∧ k ≤ maxLen ∧ RdS [old W] 1 (.slice q l.length k) l.length (l.map Value.bool) := by
  obtain ⟨q, k, l, h1, h2, h3, _, h4⟩ := open_slice_rd (α := Bool) (fun c => [.bool c]) (fun _ => True) ht hc (by omega) (fun n cs x hx => by
    obtain ⟨m, rfl, _⟩ := DataW.trod_bool he hx
    exact ⟨m, rfl, rfl, trivial⟩) h
  rw [flat_one] at h4
  exact ⟨q, k, l, h1, h2, h3, h4⟩
theorem trod_slice1 {t : TypeId} {v : Value} {d : DataW H} {p : List MemPlace} (hv : ∃ q n c, v = .slice q n c) (h : DataW.Trod enc P W 0 (fun _ => true) true t v d p) :
    ∃ n, DataW.trod enc P W 0 (fun _ => true) true n t [v] = some (d, p) := by
  obtain ⟨q, n, c, rfl⟩ := hv
  obtain ⟨fuel, h⟩ := h
  exact ⟨fuel, by simpa [Value.cells] using h⟩
end
theorem RdS.up {l F : List Assn} {size n : Nat} {v : Value} {xs : List Value} (h : RdS F size v n xs) [hF : Suf l F] : RdS l size v n xs := by
  obtain ⟨p, c, rfl, hc, hl, hp⟩ := h
  exact ⟨p, c, rfl, hc, hl, fun h0 => by obtain ⟨b, o, rfl, hr⟩ := hp h0; exact ⟨b, o, rfl, Rd.suf hr⟩⟩
theorem RdS.at_ {F : List Assn} {size n c m : Nat} {q : Option Addr} {xs : List Value} (h : RdS F size (.slice q n c) m xs) (h0 : 0 < n * size) : ∃ b o, q = some ⟨b, o, none⟩ ∧ Rd F b o xs := by
  obtain ⟨p, c', e, hc, hl, hp⟩ := h
  injection e with e1 e2 e3
  subst e1; subst e2
  exact hp h0
theorem RdS.shape {F : List Assn} {size n : Nat} {v : Value} {xs : List Value} (h : RdS F size v n xs) : ∃ q c, v = .slice q n c ∧ n ≤ c ∧ xs.length = n * size := by
  obtain ⟨p, c', e, hc, hl, hp⟩ := h
  exact ⟨p, c', e, hc, hl⟩
end Go.Sl

namespace Go.Proofs.YtjlofdodiaklaaaGreat
open Go Go.Sl
attribute [local irreducible] LooksAt

def Dev.write (D : Dev) (k : Nat) (l : List UInt8) : Dev := { D with O := D.O ++ [(k, l)], fuse := burnt D.fuse }
theorem burnt_ok {f : Int} (h0 : 0 ≤ f) (h1 : f ≤ 2305843009213693952) : 0 ≤ burnt f ∧ burnt f ≤ 2305843009213693952 := by
  simp only [burnt]; split <;> omega
theorem Dev.wrong_zero {D : Dev} {k b : Int} : D.wrong k b = 0 ↔ 0 ≤ k ∧ k < D.S.length ∧ b = 256 ∧ D.fuse ≠ 1 := by
  simp only [Dev.wrong]
  split
  · simp; omega
  · split
    · simp; omega
    · split <;> simp <;> omega
theorem Dev.write_ok {D : Dev} (hD : D.ok) {k : Nat} (hk : k < D.S.length) {l : List UInt8} (hl : l.length = 256) : (D.write k l).ok :=
  { hD with
    op := fun x hx => by
      rcases List.mem_append.1 hx with h | h
      · exact hD.op x h
      · rw [List.mem_singleton.1 h]; exact ⟨hl, hk⟩
    fuse0 := (burnt_ok hD.fuse0 hD.fuse1).1
    fuse1 := (burnt_ok hD.fuse0 hD.fuse1).2 }
theorem opV_append (a b : List (Nat × List UInt8)) : opV (a ++ b) = opV a ++ opV b := by simp [opV]
theorem opV_one {k : Nat} {l : List UInt8} : opV [(k, l)] = int k :: bytesV l := by simp [opV, opB]
theorem splice_all {vs cs : List Value} (h : vs.length = cs.length) : splice cs 0 vs = vs := by
  rw [splice_eq _ _ _ (by omega), List.take_zero, List.nil_append, List.drop_of_length_le (by omega), List.append_nil]
theorem build_write {z v : Value} {vs zs : List Value} (h : vs.length = 256) (hz : zs.length = 256) : splice (splice (z :: zs) 0 [v]) 1 vs = v :: vs := by
  rw [splice_eq [v] _ _ (by simp), splice_eq _ _ _ (by simp; omega)]
  simp [h]; omega
theorem one_cons {n : Int} {l : List Value} (h : ∀ u ∈ l, u.oneCell' = true) : ∀ u ∈ int n :: l, u.oneCell' = true := by
  intro u hu
  rcases List.mem_cons.1 hu with rfl | h'
  · rfl
  · exact h u h'
theorem write_spec {F : List Assn} {p : Nat} {D : Dev} {w : World} {k : Int} {vb : Value} {nb : Nat} {l : List UInt8} (hs : Sat (dev p D :: F) w) (hD : D.ok) (hl : RdS F 1 vb nb (bytesV l)) (hO : D.O.length ≤ 100000) :
    Ret Tryz.prog 42 [ptr p, int k, vb] w fun v w' => v = int (D.wrong k l.length) ∧ Sat (dev p (if D.wrong k l.length = 0 then D.write k.toNat l else D) :: F) w' := by
  have hready := ready_spec hs hD k l.length
  have hbnd : ∃ q c, vb = .slice q l.length c ∧ l.length ≤ c := by
    obtain ⟨q, c, rfl, h1, h2, h3⟩ := id hl
    simp at h2
    exact ⟨q, c, by rw [h2], by omega⟩
  obtain ⟨q, c, rfl, hc⟩ := hbnd
  refine Ret.enter [(true, ptr p), (true, int k), (true, .slice q l.length c)] _ Tryz.func42 rfl Tryz.ntmps42 rfl ?_
  repeat first | refine zg tab rfl rfl ?_ | refine zl (za hs rfl) ?_
  refine MC.does true (does_call rfl (hready)) rfl ?_
  rintro _ w' ⟨rfl, rfl⟩
  repeat first | refine zg tab rfl rfl ?_ | refine zl (za hs rfl) ?_
  refine MC.cond rfl (fun h => ?_) (fun h => ?_)
  · repeat first | refine zg tab rfl rfl ?_ | refine zl (za hs rfl) ?_
    refine MC.ret rfl ?_
    exact ⟨rfl, by rw [if_neg h]; exact hs⟩
  · have h := Decidable.not_not.1 h
    rw [if_pos h]
    obtain ⟨hk0, hk1, hb, hf⟩ := Dev.wrong_zero.1 h
    obtain ⟨vs, vo, hs⟩ := dev_open hs
    have hne : ∃ b o, q = some ⟨b, o, none⟩ ∧ Rd F b o (bytesV l) := by
      obtain ⟨q', c', e, h1, h2, h3⟩ := hl
      injection e with e1 e2 e3
      subst e1
      exact h3 (by omega)
    obtain ⟨b, o, rfl, hr⟩ := hne
    repeat first | refine zg tab rfl rfl ?_ | refine zl (za hs rfl) ?_
    refine MC.draw hs [0,1,2,3,4,5,6,7,8,9,10,11,12,13,14] (by rfl) ?_; intro w hs
    repeat first | refine zg tab rfl rfl ?_ | refine zm (za hs rfl) ?_
    refine MC.pure (f := true) (po_arrayAt (n := 256) rfl (by omega)) rfl ?_
    have hl256 : (bytesV l).length = 256 := by rw [bytesV_length]; omega
    refine MC.laD true (la_loadV_rd hr hs (j := 0) rfl (vs := bytesV l) (List.take_of_length_le (by simpa using Nat.le_of_eq hl256)) hl256 rfl) rfl ?_
    refine MC.pure (f := true) (po_build (ls := [(0, [int k]), (1, bytesV l)]) (out := int k :: bytesV l) rfl rfl (by exact ⟨⟨0, rfl, by simp⟩, ⟨1, congrArg (fun n => some (1, n)) hl256.symm, by simp [hl256]⟩, trivial⟩) (by exact congrArg some (build_write hl256 (by simp)))) rfl ?_
    refine MC.doesK true (does_buildSlice (ls := [(0, int k :: bytesV l)]) (out := int k :: bytesV l) hs rfl rfl (by exact ⟨⟨0, by simp only [List.length_cons, hl256, Nat.zero_mul], by simp only [List.length_cons, hl256, rep_length, List.length_append, reps_length, Nat.one_mul] <;> omega⟩, trivial⟩) (by exact congrArg some (splice_all (by simp [hl256, rep]))) (by rfl)) rfl rfl rfl ?_
    rintro _ w ⟨b1, rfl, hs⟩
    refine ⟨⟨Suf.sat hs, At.sat hs, trivial⟩, ?_⟩
    refine MC.doesK true (does_append hs rfl rfl (src_at (by simp [hl256]) (one_cons (bytesV_one l))) (by omega) (by omega)) rfl rfl rfl ?_
    intro va w hs
    refine ⟨⟨Suf.sat hs, At.sat hs, trivial⟩, ?_⟩
    obtain ⟨_, qa, ca, rfl, hca⟩ := (hs.pull 3 rfl).sl_len
    repeat first | refine zg tab rfl rfl ?_ | refine zm (za hs rfl) ?_
    refine MC.doesD true (does_store1 hs rfl rfl rfl (by first | decide | (simp; done) | (simp; omega))) rfl rfl rfl rfl ?_; intro _ w hs
    repeat first | refine zg tab rfl rfl ?_ | refine zl (za hs rfl) ?_
    have e : opV D.O ++ int k :: bytesV l = opV (D.O ++ [(k.toNat, l)]) := by rw [opV_append, opV_one, Int.toNat_of_nonneg hk0]
    rw [e] at hs
    have hs2 : Sat (dev p { D with O := D.O ++ [(k.toNat, l)] } :: F) w := dev_shut (vs := vs) (vo := .slice qa (D.O.length + 1) ca) (by simpa using hs.tail)
    have hD2 : ({ D with O := D.O ++ [(k.toNat, l)] } : Dev).ok := { hD with op := (Dev.write_ok hD (by omega) (by omega)).op }
    refine MC.does true (does_call rfl (burn_spec hs2 hD2)) rfl ?_
    intro _ w hs
    repeat first | refine zg tab rfl rfl ?_ | refine zl (za hs rfl) ?_
    refine MC.ret rfl ?_
    exact ⟨by rw [h]; rfl, hs⟩
end Go.Proofs.YtjlofdodiaklaaaGreat

namespace Go.Proofs.YtjlofdodiaklaaaGreat
open Go Go.Sl
attribute [local irreducible] LooksAt

def laid (S : List (List UInt8)) (O : List (Nat × List UInt8)) : List (List UInt8) := O.foldl (fun S x => S.set x.1 x.2) S
def Dev.sync (D : Dev) : Dev := { D with S := laid D.S D.O, O := [], fuse := burnt D.fuse }
theorem laid_length (O : List (Nat × List UInt8)) : ∀ S : List (List UInt8), (laid S O).length = S.length := by
  induction O with
  | nil => intro S; rfl
  | cons x O ih => intro S; exact (ih _).trans (by simp)
theorem laid_sec (O : List (Nat × List UInt8)) : ∀ S : List (List UInt8), (∀ s ∈ S, s.length = 256) → (∀ x ∈ O, x.2.length = 256) → ∀ s ∈ laid S O, s.length = 256 := by
  induction O with
  | nil => intro S h _; exact h
  | cons x O ih =>
    intro S h h2
    refine ih _ (fun s hs => ?_) (fun y hy => h2 y (List.mem_cons_of_mem _ hy))
    rcases List.mem_or_eq_of_mem_set hs with h' | rfl
    · exact h s h'
    · exact h2 x List.mem_cons_self
theorem laid_take {S : List (List UInt8)} {O : List (Nat × List UInt8)} {i : Nat} (hi : i < O.length) : laid S (O.take (i + 1)) = (laid S (O.take i)).set (O[i]).1 (O[i]).2 := by
  simp only [laid]
  rw [List.take_add_one, List.getElem?_eq_getElem hi, List.foldl_append]
  rfl
theorem Dev.sync_ok {D : Dev} (hD : D.ok) : D.sync.ok :=
  { pos := by rw [show D.sync.S.length = D.S.length from laid_length _ _]; exact hD.pos
    few := by rw [show D.sync.S.length = D.S.length from laid_length _ _]; exact hD.few
    sec := laid_sec _ _ hD.sec fun x hx => (hD.op x hx).1
    op := fun x hx => by cases hx
    fuse0 := (burnt_ok hD.fuse0 hD.fuse1).1
    fuse1 := (burnt_ok hD.fuse0 hD.fuse1).2 }
theorem opB_length {x : Nat × List UInt8} (h : x.2.length = 256) : (opB x).length = 257 := by simp [opB, h]
theorem opB_one (x : Nat × List UInt8) : ∀ u ∈ opB x, u.oneCell' = true := one_cons (bytesV_one _)
theorem splice_left {a b vs : List Value} {o : Nat} (h : o + vs.length ≤ a.length) : splice (a ++ b) o vs = splice a o vs ++ b := by
  rw [splice_eq _ _ _ (by simp; omega), splice_eq _ _ _ h, List.take_append_of_le_length (by omega), List.drop_append_of_le_length h]
  simp
theorem secV_length {S : List (List UInt8)} (h : ∀ s ∈ S, s.length = 256) : (secV S).length = S.length * 256 := rows_length fun s hs => by simp [h s hs]
theorem sec_splice {S : List (List UInt8)} (h : ∀ s ∈ S, s.length = 256) {k : Nat} (hk : k < S.length) {l : List UInt8} (hl : l.length = 256) (spare : List Value) : splice (secV S ++ spare) (k * 256) (bytesV l) = secV (S.set k l) ++ spare := by
  have e := secV_length h
  rw [splice_left (by rw [e]; simp [hl]; omega)]
  congr 1
  exact rows_splice (f := bytesV) (fun s hs => by simp [h s hs]) hk (by simp [hl])
theorem sync_spec {F : List Assn} {p : Nat} {D : Dev} {w : World} (hs : Sat (dev p D :: F) w) (hD : D.ok) (hO : D.O.length ≤ 100000) :
    Ret Tryz.prog 43 [ptr p] w fun v w' => v = int (D.wrong 0 256) ∧ Sat (dev p (if D.wrong 0 256 = 0 then D.sync else D) :: F) w' := by
  have hready := ready_spec hs hD 0 256
  refine Ret.enter [(true, ptr p)] _ Tryz.func43 rfl Tryz.ntmps43 rfl ?_
  repeat first | refine zg tab rfl rfl ?_ | refine zl (za hs rfl) ?_
  refine MC.does true (does_call rfl (hready)) rfl ?_
  rintro _ w' ⟨rfl, rfl⟩
  repeat first | refine zg tab rfl rfl ?_ | refine zl (za hs rfl) ?_
  refine MC.cond rfl (fun h => ?_) (fun h => ?_)
  · repeat first | refine zg tab rfl rfl ?_ | refine zl (za hs rfl) ?_
    refine MC.ret rfl ?_
    exact ⟨rfl, by rw [if_neg h]; exact hs⟩
  · have h := Decidable.not_not.1 h
    rw [if_pos h]
    obtain ⟨vs, vo, hs⟩ := dev_open hs
    obtain ⟨hsl, qs, cs, rfl, hcs⟩ := (hs.pull 1 rfl).sl_len
    obtain ⟨hol, qo, co, rfl, hco⟩ := (hs.pull 2 rfl).sl_len
    have hpos := hD.pos
    have hfew := hD.few
    rcases (hs.pull 1 rfl).sl_cases with ⟨_, h0, _⟩ | ⟨bs, c, spare, e1, _, _, hsp, hs⟩
    · omega
    injection e1 with e1 _ e2
    subst e1; subst e2
    dsimp only [List.eraseIdx] at hs
    have hr0 : RdS (sl (.slice qo D.O.length co) 114 257 D.O.length (opV D.O) :: F) 257 (.slice qo D.O.length co) D.O.length (opV D.O) := RdS.of_sl (hs.tail.tail)
    repeat first | refine zg tab rfl rfl ?_ | refine zl (za hs rfl) ?_
    refine MC.loop (σ := Nat) (fun i => [(0, true, ptr p), (14, true, .slice qo D.O.length co), (15, true, int D.O.length), (16, true, int i)])
      (fun i w => i ≤ D.O.length ∧ Sat (blk bs (secV (laid D.S (D.O.take i)) ++ spare) 112 :: blk p [.slice (some ⟨bs, 0, none⟩) D.S.length cs, .slice qo D.O.length co, int D.reads, int D.fuse] 67 :: sl (.slice qo D.O.length co) 114 257 D.O.length (opV D.O) :: F) w) (fun i => D.O.length - i) 0 (by repeat (first | exact trivial | refine ⟨rfl, ?_⟩)) ⟨by omega, hs⟩ ?_
    rintro i w ⟨hi, hs⟩
    repeat first | refine zg tab rfl rfl ?_ | refine zl (za hs rfl) ?_
    refine MC.cond rfl (fun hlt => ?_) (fun hge => ?_)
    · have hlt : i < D.O.length := by omega
      obtain ⟨hx1, hx2⟩ := hD.op _ (List.getElem_mem hlt)
      obtain ⟨q', c', e1, h1, h2, h3⟩ := id hr0
      injection e1 with e1
      subst e1
      obtain ⟨bo, oo, rfl, hr⟩ := h3 (by omega)
      repeat first | refine zg tab rfl rfl ?_ | refine zl (za hs rfl) ?_
      refine MC.la true (la_loadV_rd hr hs (j := i * 257) rfl (vs := opB D.O[i]) (rows_get (fun x hx => opB_length (hD.op x hx).1) hlt) (opB_length hx1) rfl) rfl ?_
      refine MC.does true (does_alloc hs) rfl ?_; rintro _ w ⟨_, rfl, hs⟩
      refine MC.does true (does_store (vs := opB D.O[i]) hs rfl rfl rfl (opB_length hx1) (opB_one _) (by simp)) rfl ?_
      intro _ w hs
      rw [splice_all (by simp [opB_length hx1])] at hs
      have hS := laid_length (D.O.take i) D.S
      have hsec := laid_sec (D.O.take i) D.S hD.sec fun x hx => (hD.op x (List.mem_of_mem_take hx)).1
      have hx3 : (((D.O[i]).1 : Nat) : Int).toNat = (D.O[i]).1 := Int.toNat_natCast _
      repeat first | refine zg tab rfl rfl ?_ | refine zl (za hs rfl) ?_
      refine MC.draw hs [0,1,2,3,4,5,6,7,8,9] (by rfl) ?_; intro w hs
      repeat first | refine zg tab rfl rfl ?_ | refine zm (za hs rfl) ?_
      refine MC.laD true (la_loadV hs rfl (vs := bytesV (D.O[i]).2) (by exact List.take_of_length_le (by simp [opB_length hx1])) (by simp [hx1]) rfl) rfl ?_
      repeat first | refine zg tab rfl rfl ?_ | refine zm (za hs rfl) ?_
      refine MC.doesD true (does_store (vs := bytesV (D.O[i]).2) hs rfl rfl rfl (by simp [hx1]) (bytesV_one _) ?_) rfl rfl rfl rfl ?_
      · have := secV_length hsec
        rw [List.length_append, this, hS, hx3]; omega
      intro _ w hs
      rw [Nat.zero_add, hx3, sec_splice hsec (by omega) hx1, ← laid_take hlt] at hs
      repeat first | refine zg tab rfl rfl ?_ | refine zl (za hs rfl) ?_
      exact MC.again (i + 1) (by repeat (first | exact trivial | refine ⟨rfl, ?_⟩)) ⟨by omega, hs.tail⟩ (by omega)
    · have hi' : i = D.O.length := by omega
      subst hi'
      rw [List.take_length] at hs
      repeat first | refine zg tab rfl rfl ?_ | refine zl (za hs rfl) ?_
      refine MC.does true (does_store1 hs rfl rfl rfl (by first | decide | (simp; done) | (simp; omega))) rfl ?_; intro _ w hs
      repeat first | refine zg tab rfl rfl ?_ | refine zl (za hs rfl) ?_
      have hs2 : Sat (dev p { D with S := laid D.S D.O, O := [] } :: F) w := by
        have h3 := hs.sl_mk (n := D.S.length) (c := cs) (size := 256) hcs (by rw [secV_length (laid_sec _ _ hD.sec fun x hx => (hD.op x hx).1), laid_length]) (by rw [← hsp, secV_length (laid_sec _ _ hD.sec fun x hx => (hD.op x hx).1), laid_length, hsl])
        refine dev_shut (vs := .slice (some ⟨bs, 0, none⟩) D.S.length cs) (vo := .slice none 0 0) ?_
        rw [show (laid D.S D.O).length = D.S.length from laid_length _ _]
        exact (Sat.sl_nil h3 114 257).pickF 4 [2, 1, 0] rfl rfl
      have hD2 : ({ D with S := laid D.S D.O, O := [] } : Dev).ok := { Dev.sync_ok hD with fuse0 := hD.fuse0, fuse1 := hD.fuse1 }
      refine MC.does true (does_call rfl (burn_spec hs2 hD2)) rfl ?_
      intro _ w hs
      repeat first | refine zg tab rfl rfl ?_ | refine zl (za hs rfl) ?_
      refine MC.ret rfl ?_
      exact ⟨by rw [h]; rfl, hs⟩
end Go.Proofs.YtjlofdodiaklaaaGreat
