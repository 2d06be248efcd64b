/-
  The reckoner's steps once more, what must hold on the way asked of a proof that is told here once | A tree's Put and Del | From a contract on parts of the heap to a row: what lay in the world lies there as it did | The reckoner's steps, as many as there are, in one word | More laws: slices of one-cell elements put together; append of noughts; results that lie in a cell | 'range' over a function that yields two values, which it makes as it goes | A node that is too great by one key is cut in two that fit | What an argument reads as, it reads as again where the heap's old blocks lie as they lay: for bools, numbers, texts, slices and structs of them
-/
import Derived.Test.YtkccjgllanpebaaGreatDoorYak
import Derived.ProofKit
import Derived.OpenShut
import Derived.JoinedCond
import Derived.WalkKit
import Derived.Test.YtkccjgllanpebaaGreatDoorYal
set_option linter.unusedVariables false
set_option linter.unusedSimpArgs false
namespace Go.Sl
open Go
theorem MC.go1 {X : Cx} (T : Tab) [TabOk X.P T] {ds : List Deferred} {k : List It} {fr : Fr} {w : World} {k' : List It} {fr' : Fr} {cs : List Prop} (h1 : (step T X.n fr k).isSome = true) (h : exec T X.n 1000 k fr [] = ⟨k', fr', cs⟩) (hm : MC X ds k' fr' w)
    (hc : Conds cs := by first | exact True.intro | (simp only [Conds, rng, Int.toNat_natCast, List.length_append, bytesV_length] <;> omega) | (simp [Conds, rng] <;> omega) | (simp only [Conds, rng, wrap_u8, wrap_u16, wrap_u32, wrap_u64] <;> omega)) : MC X ds k fr w :=
  MC.run T 1000 h hc hm
section
variable {X : Cx} {ds : List Deferred} {k : List It} {fr : Fr} {w : World} {det : Bool} {ops : Array Oper} {obs : Obs} {R : List (Nat × Oper)} {i : Nat} {d : Option Tmp} {op : Op} {ty : TypeId} {pos : String} {aft : Array Edge}
theorem zg (T : Tab) [TabOk X.P T] {k' : List It} {fr' : Fr} {cs : List Prop} (h1 : (step T X.n fr k).isSome = true) (h : exec T X.n 1000 k fr [] = ⟨k', fr', cs⟩) (hm : MC X ds k' fr' w)
    (hc : Conds cs := by first | exact True.intro | (simp only [Conds, rng, Int.toNat_natCast, List.length_append, bytesV_length] <;> omega) | (simp [Conds, rng] <;> omega) | (simp only [Conds, rng, wrap_u8, wrap_u16, wrap_u32, wrap_u64] <;> omega)) : MC X ds k fr w :=
  MC.run T 1000 h hc hm
theorem zp {j : Nat} {gb : Bool} {t : Nat} (hg : gslot ops ⟨d, op, ty, pos, aft, some (j, gb)⟩ = some t) {p : Prop} [Decidable p] (hv : lk fr t = some (.bool (decide p)))
    (h : MC X ds (.ops det ops obs ((i, ⟨d, op, ty, pos, aft, some (j, gb)⟩) :: R) :: k) ((t, true, .bool true) :: fr) w) (hp : p := by first | decide | omega) :
    MC X ds (.ops det ops obs ((i, ⟨d, op, ty, pos, aft, some (j, gb)⟩) :: R) :: k) fr w := MC.part hg hv (fun _ => h) (fun hn => absurd hp hn)
theorem zq {j : Nat} {gb : Bool} {t : Nat} (hg : gslot ops ⟨d, op, ty, pos, aft, some (j, gb)⟩ = some t) {p : Prop} [Decidable p] (hv : lk fr t = some (.bool (decide p)))
    (h : MC X ds (.ops det ops obs ((i, ⟨d, op, ty, pos, aft, some (j, gb)⟩) :: R) :: k) ((t, true, .bool false) :: fr) w) (hp : ¬ p := by first | decide | omega) :
    MC X ds (.ops det ops obs ((i, ⟨d, op, ty, pos, aft, some (j, gb)⟩) :: R) :: k) fr w := MC.part hg hv (fun hn => absurd hn hp) (fun _ => h)
theorem zt {c : Operand} {x y : Code} {p : Prop} [Decidable p] (hc : ev fr c = some (.bool (decide p))) (h : MC X ds (.code x :: k) fr w) (hp : p := by first | decide | omega) : MC X ds (.code (.cond c x y) :: k) fr w :=
  MC.cond hc (fun _ => h) (fun hn => absurd hp hn)
theorem zf {c : Operand} {x y : Code} {p : Prop} [Decidable p] (hc : ev fr c = some (.bool (decide p))) (h : MC X ds (.code y :: k) fr w) (hp : ¬ p := by first | decide | omega) : MC X ds (.code (.cond c x y) :: k) fr w :=
  MC.cond hc (fun hn => absurd hn hp) (fun _ => h)
end
section
variable {X : Cx} {P : Program} {ds : List Deferred} {k : List It} {fr : Fr} {w : World} {ops : Array Oper} {obs : Obs} {R : List (Nat × Oper)} {i : Nat} {d : Option Tmp} {op : Op} {ty t : TypeId} {x : Operand} {pos : String} {aft : Array Edge} {g : Option (Nat × Bool)} {l : List Assn} {b o : Nat} {cs : List Value} {e : TypeId} {G : List Value → List Assn} {v : Value} {bytes : Nat} {zero : List Value} {C : World → Prop}
theorem za [hI : TyI P t false 1 bytes zero] [hA : At l b cs e G] (hs : Sat l w) (hx : ev fr x = some (.pointer (some ⟨b, o, none⟩))) (h : cs[o]? = some v := by rfl) : LooksAt P ⟨d, .load t x, ty, pos, aft, g⟩ fr w (Sat [blk b cs e]) v := la_load1 hs hx h
theorem zl (h : LooksAt X.P ⟨d, op, ty, pos, aft, none⟩ fr w C v) (hk : MC X ds (.ops true ops [] R :: k) (setD d true v fr) w) (hd : okD X.n d = true := by rfl) :
    MC X ds (.ops true ops [] ((i, ⟨d, op, ty, pos, aft, none⟩) :: R) :: k) fr w := MC.la true h hd hk
theorem zm (h : LooksAt X.P ⟨d, op, ty, pos, aft, none⟩ fr w C v) (hk : MC X ds (.ops false ops ((i, C) :: obs) R :: k) (setD d true v fr) w) (hd : okD X.n d = true := by rfl) :
    MC X ds (.ops false ops obs ((i, ⟨d, op, ty, pos, aft, none⟩) :: R) :: k) fr w := MC.laD true h hd hk
end
theorem all1 {l : List Value} (h : l.all (fun u => u.oneCell') = true) : ∀ u ∈ l, u.oneCell' = true := fun u hu => List.all_eq_true.1 h u hu
end Go.Sl

namespace Go.Pa
open Go.Tr
def srt (l : List Pr) : Prop := l.Pairwise fun a b => ltB a.1 b.1 = true
theorem srt_ins {l : List Pr} {k v : Bs} (h : srt l) : srt (insL l k v) := by
  unfold insL srt
  rw [List.pairwise_append]
  refine ⟨h.sublist List.filter_sublist, List.pairwise_cons.2 ⟨fun x hx => (List.mem_filter.1 hx).2, h.sublist List.filter_sublist⟩, fun x hx y hy => ?_⟩
  have h1 := (List.mem_filter.1 hx).2
  rcases List.mem_cons.1 hy with rfl | hy
  · exact h1
  · exact ltB_trans h1 (List.mem_filter.1 hy).2
theorem srt_split {l : List Pr} (k : Bs) (h : srt l) : l = l.filter (fun x => ltB x.1 k) ++ (l.filter (fun x => decide (x.1 = k)) ++ l.filter (fun x => ltB k x.1)) ∧ (l.filter (fun x => decide (x.1 = k))).length = (if hasK l k = true then 1 else 0) := by
  induction l with
  | nil => exact ⟨rfl, rfl⟩
  | cons a l ih =>
    obtain ⟨h1, h2⟩ := List.pairwise_cons.1 h
    obtain ⟨ih1, ih2⟩ := ih h2
    rcases ltB_total a.1 k with h3 | h3 | h3
    · have e1 : ltB k a.1 = false := ltB_asymm h3
      have e2 := ltB_ne h3
      constructor
      · rw [List.filter_cons_of_pos (p := fun x : Pr => ltB x.1 k) h3, List.filter_cons_of_neg (by simpa using e2), List.filter_cons_of_neg (by rw [e1]; decide), List.cons_append, ← ih1]
      · rw [List.filter_cons_of_neg (by simpa using e2), ih2]
        unfold hasK
        rw [List.any_cons, decide_eq_false e2, Bool.false_or]
    · subst h3
      have e1 : ∀ x ∈ l, ltB x.1 a.1 = false := fun x hx => ltB_asymm (h1 x hx)
      have e2 : ∀ x ∈ l, decide (x.1 = a.1) = false := fun x hx => decide_eq_false (ltB_ne (h1 x hx)).symm
      constructor
      · rw [List.filter_cons_of_neg (by rw [ltB_irrefl]; decide), filter_no (l := l) e1, List.filter_cons_of_pos (by simp), filter_no (l := l) e2, List.filter_cons_of_neg (by rw [ltB_irrefl]; decide), filter_all (l := l) fun x hx => h1 x hx]
        rfl
      · rw [List.filter_cons_of_pos (by simp), filter_no (l := l) e2]
        simp [hasK]
    · have hall : ∀ x ∈ l, ltB k x.1 = true := fun x hx => ltB_trans h3 (h1 x hx)
      have e2 := (ltB_ne h3).symm
      have e3 : ∀ x ∈ l, decide (x.1 = k) = false := fun x hx => decide_eq_false (ltB_ne (hall x hx)).symm
      constructor
      · rw [List.filter_cons_of_neg (by rw [ltB_asymm h3]; decide), filter_no (l := l) fun x hx => ltB_asymm (hall x hx), List.filter_cons_of_neg (by simpa using e2), filter_no (l := l) e3, List.filter_cons_of_pos (p := fun x : Pr => ltB k x.1) h3, filter_all (l := l) hall]
        rfl
      · rw [List.filter_cons_of_neg (by simpa using e2), filter_no (l := l) e3]
        have : hasK (a :: l) k = false := by
          unfold hasK
          rw [List.any_cons, decide_eq_false e2, Bool.false_or]
          exact List.any_eq_false.2 fun x hx => by rw [e3 x hx]; decide
        rw [this]; rfl
theorem len_split {l : List Pr} (k : Bs) (h : srt l) : l.length = (l.filter (fun x => ltB x.1 k)).length + ((if hasK l k = true then 1 else 0) + (l.filter (fun x => ltB k x.1)).length) := by
  obtain ⟨h1, h2⟩ := srt_split k h
  have h3 := congrArg List.length h1
  rw [List.length_append, List.length_append, h2] at h3
  exact h3
theorem len_ins {l : List Pr} {k v : Bs} (h : srt l) : (insL l k v).length = l.length + (if hasK l k = true then 0 else 1) := by
  have h3 := len_split k h
  have h4 : (insL l k v).length = (l.filter (fun x => ltB x.1 k)).length + ((l.filter (fun x => ltB k x.1)).length + 1) := by
    unfold insL; rw [List.length_append, List.length_cons]
  rw [h4]
  cases hh : hasK l k
  · rw [hh] at h3
    simp only [Bool.false_eq_true, if_false] at h3 ⊢
    omega
  · rw [hh] at h3
    simp only [if_true] at h3 ⊢
    omega

def trT (t : T) (l : List Pr) : PA := match t.height with
  | 0 => fct (l = [])
  | h + 1 => trA full h t.root l
section
variable {E : En} {KK : List Nat} {s s' : St} {t : T} {h : Nat} {l : List Pr} {m : Md} {key value : Bs} {F : List PA}
theorem trT_zero (h0 : t.height = 0) : PS E KK (trT t l :: F) s ↔ l = [] ∧ PS E KK F s := by
  unfold trT; rw [h0]; exact PS.fct_iff
theorem trT_succ (h0 : t.height = h + 1) : PS E KK (trT t l :: F) s ↔ PS E KK (trA full h t.root l :: F) s := by
  unfold trT; rw [h0]
theorem grow_ok {P : Nd → Prop} (hP : ∀ n, full n → P n) (h0 : t.height = h + 1) (a : PS E KK (outA P h m l :: F) s) : Ok (growM E t m) s fun t' s' => t'.count = t.count ∧ ∃ h', t'.height = h' + 1 ∧ PS E KK (trA P h' t'.root l :: F) s' := by
  unfold growM
  cases ho : m.other with
  | none => exact Ok.pure ⟨rfl, h, h0, (out_one ho).1 a⟩
  | some o =>
    obtain ⟨l1, l2, rfl, h1, h2, _, a⟩ := (out_two ho).1 a
    dsimp only []
    refine Ok.bind ((putN_ok a).mono fun k s1 h3 => Ok.pure ⟨rfl, h + 1, by show t.height + 1 = _; rw [h0], ?_⟩)
    refine tr_ps.2 ⟨_, h3.1, hP _ (by unfold full; simp), h3.2.under fun q hq => ?_⟩
    have := fold_kids2 (A := []) (C := []) (p := m.page) (q := o) (lx := l1) (ly := l2) (K := [m.key]) (F := F) (h := h) (hp := q) ⟨h1, h2⟩ (by simpa [kidA] using hq)
    simpa [flat] using this
structure Holds (t : T) (l : List Pr) : Prop where
  srt : srt l
  cnt : t.count = l.length
theorem put_ok' (hl : Holds t l) (a : PS E KK (trT t l :: F) s) : Ok (putT E t key value) s fun t' s' => PS E KK (trT t' (insL l key value) :: F) s' ∧ Holds t' (insL l key value) := by
  unfold putT
  refine Ok.bind ((cell_ok (b := value) a).mono fun cell s1 h1 => ?_)
  refine Ok.ite (fun h0 => ?_) fun h0 => ?_
  · have h2 := h1.pickF 2 [1, 0] rfl rfl
    obtain ⟨rfl, h3⟩ := (trT_zero h0).1 h2
    refine Ok.bind ((putN_ok h3).mono fun k s2 h4 => Ok.pure ⟨?_, ?_⟩)
    · refine (trT_succ (t := ⟨k, 1, 1⟩) (h := 0) rfl).2 (tr_ps.2 ⟨_, h4.1, by unfold full; simp, h4.2.under fun q hq => ?_⟩)
      exact leaf_iff.2 ⟨[(key, cell, value)], rfl, rfl, hq⟩
    · exact ⟨srt_ins hl.srt, rfl⟩
  · obtain ⟨h, h5⟩ : ∃ h, t.height = h + 1 := ⟨t.height - 1, by omega⟩
    have h2 := (trT_succ h5).1 (h1.pickF 2 [1, 0] rfl rfl)
    rw [h5]
    refine Ok.bind ((insert_ok h h2).mono ?_)
    rintro ⟨m, fr⟩ s2 ⟨hfr, h3⟩
    dsimp only [] at hfr h3 ⊢
    refine (grow_ok (fun _ h => h) rfl h3).mono ?_
    rintro t' s3 ⟨hc, h', hh, h4⟩
    refine ⟨(trT_succ hh).2 h4, srt_ins hl.srt, ?_⟩
    rw [hc, len_ins hl.srt, hfr]
    show t.count + _ = _
    rw [hl.cnt]
    cases hasK l key <;> rfl
end
end Go.Pa

namespace Go.Sl
open Go Go.ChangeShapes Go.WideShapes Go.ChangeAt Go.RowKit
theorem Sat.kept {l : List Assn} {W w : World} (h : Sat (old W :: l) w) : W.keptBut w (fun _ => False) := by
  have he := h.old_env
  simp only [envOf, Prod.mk.injEq] at he
  refine ⟨he.1, he.2, fun i hi => ?_⟩
  have r := (World.keptBut_refl W (fun _ => False)).2.2 i hi
  rw [h.old_same i hi]
  exact r
theorem Sat.frozen_old {l : List Assn} {W w : World} (h : Sat (old W :: l) w) (a : Addr) (ha : a.block < W.heap.size) : w.frozen? a = W.frozen? a := by
  unfold World.frozen?
  rw [h.old_same _ ha]
section
variable {H : Type} {enc : TypeId × Value → H} {P : Program}
theorem post_of_old {l : List Assn} {f : Func} {s : ChangeSpec} {apart fresh handsOn again : Bool} {W W' : World} {args : Array Value} {v : Value} {ds gs : List (DataW H)} {before pa pv : List MemPlace}
    (hS : Sat (old W :: l) W') (hW : DataW.Whole enc P f.params.toList s.vars apart W args.toList ds gs before)
    (hres : ∀ (b : Nat) (sp : Nat → Bool) (hd : Bool), DataW.TrodAll enc P W' b sp hd f.resultTypes.toList (v.resultList f.resultTypes.size) (s.fn H (ds ++ gs)).results [])
    (hargs : ∀ sp : Nat → Bool, (∀ p ∈ before, sp p.block = true) → DataW.TrodAll enc P W' 0 sp true f.params.toList args.toList (s.fn H (ds ++ gs)).args pa)
    (hvars : ∀ sp : Nat → Bool, (∀ p ∈ before, sp p.block = true) → DataW.TrodVars enc P W' sp s.vars (s.fn H (ds ++ gs)).vars pv)
    (hps : before = pa ++ pv)
    (hok : ∀ (j : Nat) (t : TypeId) (r : Value), f.resultTypes[j]? = some t → (v.resultList f.resultTypes.size)[j]? = some r → Value.okWide P W' .any 0 t r) :
    s.post enc P f apart fresh handsOn again W args v W' := by
  have hlt := hW.lt
  have hold : ∀ p ∈ before, (fun b => decide (b < W.heap.size)) p.block = true := fun p hp => by simpa using hlt p hp
  refine ⟨ds, gs, before, [], pa, pv, hW, hres _ _ _, hargs _ hold, hvars _ hold, World.keptBut_mono (fun p hp => hp.elim) hS.kept, fun _ => ?_⟩
  obtain ⟨_, _, _, _, _, hz, hn⟩ := hW
  refine ⟨hok, _, _, ([] ++ pa) ++ pv, ⟨[] ++ pa, pv, trodAll_append (hargs _ (fun _ _ => rfl)) (hres _ _ _), hvars _ (fun _ _ => rfl), rfl, ?_, ?_⟩, ?_⟩
  · intro b off hp
    have hp' : MemPlace.cell b off ∈ before := by rw [hps]; simpa using hp
    rw [hS.frozen_old _ (hlt _ hp')]
    exact hz b off hp'
  · intro ha
    simpa [hps] using hn ha
  · intro p hp _
    rw [hps]
    simpa using hp
end
end Go.Sl

namespace Go.Sl
open Go
section
variable {X : Cx} {ds : List Deferred} {k : List It} {fr : Fr} {w : World} {k' : List It} {fr' : Fr}
theorem zz (h : MC X ds k' fr' w) (hr : MC X ds k' fr' w → MC X ds k fr w := by
    intro h0
    repeat first | refine zg tab rfl rfl ?_ | refine zl (za hs rfl) ?_ | refine zq rfl rfl ?_ | refine zp rfl rfl ?_ | refine zf rfl ?_ | refine zt rfl ?_
    exact h0) : MC X ds k fr w := hr h
theorem zd (h : MC X ds k' fr' w) (hr : MC X ds k' fr' w → MC X ds k fr w := by
    intro h0
    repeat first | refine zg tab rfl rfl ?_ | refine zm (za hs rfl) ?_ | refine zq rfl rfl ?_ | refine zp rfl rfl ?_ | refine zf rfl ?_ | refine zt rfl ?_
    exact h0) : MC X ds k fr w := hr h
theorem zh {a b : Prop} (hb : b) (ha : a := by repeat first | exact True.intro | refine ⟨At.sat hs, ?_⟩ | refine ⟨Suf.sat hs, ?_⟩ | refine ⟨AtM.sat hs, ?_⟩) : a ∧ b := ⟨ha, hb⟩
theorem zi {p : Prop} (h : p := by repeat (first | exact trivial | refine ⟨rfl, ?_⟩)) : p := h
theorem zc {ops : Array Oper} {R : List (Nat × Oper)} {i : Nat} {d : Option Tmp} {ty : TypeId} {pos : String} {aft : Array Edge} {f : FuncId} [hF : Fun X.P f] {args : Array Operand} {ts : Array TypeId} {vs : List Value} {Post : Value → World → Prop} (he : evs fr args.toList = some vs) (h : Ret X.P f vs w Post)
    (hk : ∀ v w', Post v w' → MC X ds (.ops true ops [] R :: k) (setD d true v fr) w') (hd : okD X.n d = true := by rfl) :
    MC X ds (.ops true ops [] ((i, ⟨d, .call { callee := .value (.func f), args := args, argTypes := ts }, ty, pos, aft, none⟩) :: R) :: k) fr w := MC.does true (does_call he h) hd hk
end
section
variable {P : Program} {r : Option Nat} {fr : Fr} {d : Option Tmp} {ty : TypeId} {pos : String} {aft : Array Edge} {g : Option (Nat × Bool)} {v u z vx vy : Value} {x y c i : Operand} {t s e : TypeId} {w : World} {l F : List Assn} {b o : Nat} {cs : List Value} {G : List Value → List Assn}

def upto : Nat → Nat → List Nat
  | _, 0 => []
  | k, n + 1 => k :: upto (k + 1) n
def ones : Nat → List Value → List (Nat × List Value)
  | _, [] => []
  | k, v :: vs => (k, [v]) :: ones (k + 1) vs
theorem lay_ones : ∀ (vs a zs : List Value), zs.length = vs.length → lay (fun i => some (i * 1, 1)) (a ++ zs) (ones a.length vs) = some (a ++ vs)
  | [], a, zs, h => by
    have : zs = [] := List.eq_nil_of_length_eq_zero h
    subst this; rfl
  | v :: vs, a, z :: zs, h => by
    simp only [ones, lay, splice]
    rw [show a.length * 1 = a.length from Nat.mul_one _]
    have e : (a ++ z :: zs).set a.length v = (a ++ [v]) ++ zs := by simp [List.set_append]
    rw [e]
    have := lay_ones vs (a ++ [v]) zs (by simpa using h)
    rw [List.length_append, List.length_singleton] at this
    rw [this]
    simp
theorem layOk_ones (n : Nat) : ∀ (vs : List Value) (k : Nat), k + vs.length ≤ n → layOk (fun i => some (i * 1, 1)) n (ones k vs)
  | [], _, _ => trivial
  | v :: vs, k, h => ⟨⟨k * 1, rfl, by simp at h ⊢; omega⟩, layOk_ones n vs (k + 1) (by simp at h ⊢; omega)⟩
theorem evps_ones {fr : Fr} : ∀ (ps : List (Nat × Operand)) (vs : List Value) (k : Nat), ps.map (·.1) = upto k vs.length → evs fr (ps.map (·.2)) = some vs → evps fr ps = some ((upto k vs.length).zip vs)
  | [], vs, k, h1, h2 => by simp [evs] at h2; subst h2; rfl
  | (i, x) :: ps, vs, k, h1, h2 => by
    simp only [List.map_cons, evs] at h2
    split at h2
    · rename_i v vs' e1 e2
      cases h2
      simp only [List.length_cons, upto, List.map_cons, List.cons.injEq] at h1
      obtain ⟨rfl, h1⟩ := h1
      simp only [evps, e1, evps_ones ps vs' (i + 1) h1 e2, List.length_cons, upto, List.zip_cons_cons]
    · cases h2
theorem zip_ones : ∀ (vs : List Value) (k : Nat), (∀ v ∈ vs, v.oneCell' = true) → ((upto k vs.length).zip vs).map (fun p => (p.1, p.2.cells)) = (ones k vs).map (fun p => (p.1, p.2.toArray))
  | [], _, _ => rfl
  | v :: vs, k, h => by
    simp only [List.length_cons, upto, List.zip_cons_cons, List.map_cons, ones]
    rw [zip_ones vs (k + 1) fun u hu => h u (List.mem_cons_of_mem _ hu), oneCell'_cells (h v List.mem_cons_self)]
theorem does_buildL {bytes : Nat} {zero : List Value} [hT : TyU P t (.slice e)] [hI : TyI P e false 1 bytes zero] {n : Nat} {ps : Array (Nat × Operand)} {vs : List Value} (hs : Sat l w) (hv : evs fr (ps.toList.map (·.2)) = some vs)
    (hp : ps.toList.map (·.1) = upto 0 vs.length) (hn : vs.length = n) (h1 : ∀ v ∈ vs, v.oneCell' = true) (hb : Nat.ble n 16777216 = true) :
    Does P r ⟨d, .buildSlice t n ps, ty, pos, aft, g⟩ fr w (fun v w' => ∃ b, v = .slice (some ⟨b, 0, none⟩) n n ∧ Sat (blk b vs e :: l) w') := by
  obtain ⟨i, hi, h2, h3, h4, h5, h6, h7⟩ := hI.info
  have hz : (rep n zero).length = vs.length := by rw [rep_length, h6, hn, Nat.mul_one]
  refine does_buildSlice (zero := zero) (size := 1) (agg := false) (ls := ones 0 vs) (out := vs) hs (evps_ones _ vs 0 hp hv) (zip_ones vs 0 h1) ?_ ?_ (by simpa using hb)
  · exact layOk_ones _ vs 0 (by rw [hz]; omega)
  · exact lay_ones vs [] (rep n zero) hz

theorem rep_zeroCells (z : List Value) (n : Nat) (hz : 0 < z.length) : Builtin.zeroCells z.toArray n = (rep n z).toArray := by
  rw [← zeros_eq n z (.inr hz)]
  unfold Builtin.zeroCells madeCells
  simp
end

section
variable {P : Program} {n : Nat} {fr : Fr} {w : World} {fn : Func} {Post : Value → World → Prop} {k : List It} {l : List Assn} {b o : Nat} {cs : List Value} {t e : TypeId} {G : List Value → List Assn}
theorem run_results_cell {agg : Bool} {size bytes : Nat} {zero : List Value} {s : Nat} {ds : List Deferred} {a : Act} [hI : TyI P t agg size bytes zero] [hA : At l b cs e G] (hf : Fits n ds fr a) (hr : fn.results = #[.cell s t]) (hs : Sat l w) (hx : lk fr s = some (.pointer (some ⟨b, o, none⟩))) {vs : List Value} (h : (cs.drop o).take size = vs) (hl : vs.length = size) (h0 : Nat.blt 0 size = true) :
    (results fn a.tmps).run P w = .ok (valOf agg vs) w := by
  have hC := At.sat (h := hA) hs
  have hlen : ∀ (j : Nat) (u : Value), vs[j]? = some u → w.cell? ⟨b, o + j, none⟩ = some u := fun j u hj => by
    rw [hC.blk_cell (o + j)]
    rw [← h, List.getElem?_take] at hj
    split at hj
    · rwa [List.getElem?_drop] at hj
    · cases hj
  have h1 := run_loadVar (P := P) (t := t) (w := w) (b := b) o vs hl hlen
  unfold results
  rw [hr]
  simp [hf.slot s _ hx, Array.getD_eq_getD_getElem?, asAddr, h1]
theorem MC.retC {agg : Bool} {size bytes : Nat} {zero : List Value} {s : Nat} [hI : TyI P t agg size bytes zero] [hA : At l b cs e G] (hr : fn.results = #[.cell s t]) (hs : Sat l w) (hx : lk fr s = some (.pointer (some ⟨b, o, none⟩))) {vs : List Value} (h : (cs.drop o).take size = vs) (hl : vs.length = size) (h0 : Nat.blt 0 size = true) (hP : Post (valOf agg vs) w) :
    MC ⟨P, none, n, bodyPost P fn fun e w' => ∃ v, e = .returned v ∧ Post v w'⟩ [] (.code .ret :: k) fr w := fun _ hf =>
  wpIn_ret (by rw [post_ret]; exact ⟨hf.defers, _, run_results_cell hf hr hs hx h hl h0, _, rfl, hP⟩)
end
theorem MC.cutAtS {σ : Type} {X : Cx} {ds : List Deferred} {k : List It} {fr : Fr} {w : World} (j : Nat) (F : σ → Fr) (I : σ → World → Prop) (hn : noOps (k.take j) = true) (h2 : ∀ s w', I s w' → MC X ds (k.drop j) (F s) w')
    (h1 : MC X ds (k.take j ++ .goal (fun a' w' => ∃ s, Fits X.n ds (F s) a' ∧ I s w') :: k.drop j) fr w) : MC X ds k fr w := fun a hf => by
  have := post_cut (fun a w ⟨s, h, hI⟩ => h2 s w hI a h) (k.take j) .normal a w hn (h1 a hf)
  rwa [List.take_append_drop] at this
theorem MC.meetS {σ : Type} {X : Cx} {ds : List Deferred} {k : List It} {fr : Fr} {w : World} {F : σ → Fr} {I : σ → World → Prop} (s : σ) (hF : incl fr (F s)) (hI : I s w) : MC X ds (.goal (fun a' w' => ∃ s, Fits X.n ds (F s) a' ∧ I s w') :: k) fr w :=
  fun _ hf => ⟨s, hf.sub hF.sub, hI⟩
section
variable {P : Program} {n : Nat} {fr : Fr} {w : World} {l : List Assn} {k : List It} {ds : List Deferred} {Q : Po} {R : Ending → World → Prop} {L D : Nat} {rec : Loop}
def Iter2 {σ : Type} (P : Program) (gf : FuncId) (lb : List Value) (J0 JN : List Assn) (ar : σ → Value × Value) (Jy Jn : σ → List Assn) (pre : List Assn) (Jx : World → Prop) : Prop :=
  ∀ L w, (∀ x w, Sat (pre ++ Jy x) w → Yd P L [(ar x).1, (ar x).2] w fun v w' => (v = .bool true ∧ Sat (pre ++ Jn x) w') ∨ (v = .bool false ∧ Jx w')) → Sat (pre ++ J0) w → Ret P gf (.func (.yield L) #[] #[] :: lb) w fun _ w' => Sat (pre ++ JN) w' ∨ Jx w'
theorem MC.rangeFunc2 {σ : Type} {X : Cx} (hX : X.r = none) {g : Operand} {t1 t2 : Nat} {assign body : Code} {gf : FuncId} [hF : Fun X.P gf] {lb : List Value} (J0 JN : List Assn) (ar : σ → Value × Value) (Jy Jn : σ → List Assn) (cs : List Code) (lx : Code → List Assn)
    (hg : ev fr g = some (.func (.func gf) #[] lb.toArray)) (ht1 : okD X.n (some t1) = true) (ht2 : okD X.n (some t2) = true) (hs : Sat J0 w)
    (iter : ∀ (pre : List Assn) (Jx : World → Prop), Iter2 X.P gf lb J0 JN ar Jy Jn pre Jx)
    (round : ∀ (L D : Nat) (x : σ) (rec : Loop) (w : World), isReady rec → Sat (lp L rec :: shelf D :: Jy x) w →
      MC ⟨X.P, some L, X.n, fun _ _ _ => False⟩ [] [.code assign, .goal (Begin X.P L body (Rnd L D rec (Jn x) cs lx))] ((t2, true, (ar x).2) :: (t1, true, (ar x).1) :: fr) w)
    (hdone : ∀ D w', Sat (shelf D :: JN) w' → MC X (mark D :: ds) k fr w')
    (hstop : ∀ c D w', c ∈ cs → Sat (shelf D :: lx c) w' → MC X (mark D :: ds) (.code c :: k) fr w') :
    MC X ds (.code (.rangeFunc g #[t1, t2] assign body) :: k) fr w := fun a hf => by
  obtain ⟨P, r, n, Q⟩ := X
  subst hX
  refine wpIn_rangeFunc ?_
  intro fn hfn
  obtain ⟨rec, hrec⟩ : ∃ rec : Loop, rec = { state := .ready, pending := none, fn, tmps := a.tmps, params := #[t1, t2], assign, body, defers := w.heap.size } := ⟨_, rfl⟩
  have hready : isReady rec := by rw [hrec]; exact ⟨rfl, rfl⟩
  have hs1 : Sat (shelf w.heap.size :: J0) (w.alloc (.deferred (some []))) := hs.allocObj _
  have hs2 : Sat (lp (w.heap.size + 1) rec :: shelf w.heap.size :: J0) ((w.alloc (.deferred (some []))).alloc (.loop rec)) := by
    have := hs1.allocObj (.loop rec); rwa [World.size_alloc] at this
  refine ⟨w.heap.size + 1, [mark w.heap.size], (w.alloc (.deferred (some []))).alloc (.loop rec), { target := .fn (.func gf) lb.toArray, args := #[.func (.yield (w.heap.size + 1)) #[] #[]] }, (w.alloc (.deferred (some []))).alloc (.loop rec), gf,
    #[.func (.yield (w.heap.size + 1)) #[] #[]] ++ lb.toArray, (w.alloc (.deferred (some []))).alloc (.loop rec), ?_, ?_, fun _ _ => trivial, ?_, fun h => by simp [Wd] at h, ?_⟩
  · rw [hrec]; exact run_enterLoop_outer _ _ _ _ _
  · simp only [resolve, hf.ev hg]
    simp [go_sem]
  · have := hF.h (#[.func (.yield (w.heap.size + 1)) #[] #[]] ++ lb.toArray) ((w.alloc (.deferred (some []))).alloc (.loop rec))
    simp at this
    simp [invoke, go_sem, this]
  · have hit := iter [lp (w.heap.size + 1) rec, shelf w.heap.size] (fun w' => ∃ c, c ∈ cs ∧ Sat (lp (w.heap.size + 1) { rec with state := .done, pending := some c } :: shelf w.heap.size :: lx c) w') (w.heap.size + 1) _ (fun x w1 h1 => ?_) hs2
    · have hit' := (callsIn_wd (r := none) (n := 0)).2 hit
      have e : (.func (.yield (w.heap.size + 1)) #[] #[] :: lb : List Value).toArray = #[.func (.yield (w.heap.size + 1)) #[] #[]] ++ lb.toArray := by simp
      rw [e] at hit'
      refine hit'.mono ?_
      rintro _ w2 ⟨v, rfl, h2 | ⟨c, hc, h2⟩⟩
      · have h2 : Sat (lp (w.heap.size + 1) rec :: shelf w.heap.size :: JN) w2 := h2
        refine ⟨none, _, by have := run_endLoop (P := P) h2.obj_heap (by rw [hready.1]; simp); rw [hready.2] at this; exact this, ?_⟩
        exact hdone _ _ (h2.putObj).tail _ ⟨hf.size, by simp [hf.defers], hf.slot⟩
      · refine ⟨some c, _, run_endLoop (P := P) h2.obj_heap (by simp), ?_⟩
        exact hstop _ _ _ hc (h2.putObj).tail _ ⟨hf.size, by simp [hf.defers], hf.slot⟩
    · have h1 : Sat (lp (w.heap.size + 1) rec :: shelf w.heap.size :: Jy x) w1 := h1
      have hy := run_yield (P := P) (args := #[(ar x).1, (ar x).2]) h1.obj_heap (by rw [hrec]; rfl)
      refine ⟨rec.fn, _, rec.assign, rec.body, hy, ?_⟩
      have hf1 := hf.setD (d := some t1) ht1 true (ar x).1
      have hf' := hf1.setD (d := some t2) ht2 true (ar x).2
      have hm := round (w.heap.size + 1) w.heap.size x rec w1 hready h1 { tmps := ((a.put (some t1) (ar x).1).put (some t2) (ar x).2).tmps, defers := [] } ⟨hf'.size, rfl, hf'.slot⟩
      have hm' : assign.wpIn (Wd (some (w.heap.size + 1))) 0 P (post P (some (w.heap.size + 1)) (fun _ _ _ => False) [.goal (Begin P (w.heap.size + 1) body (Rnd (w.heap.size + 1) w.heap.size rec (Jn x) cs lx))]) { tmps := ((a.put (some t1) (ar x).1).put (some t2) (ar x).2).tmps, defers := [] } w1 := hm
      have e : ((#[t1, t2].zip #[(ar x).1, (ar x).2]).foldl (fun (tmps : Array Value) (x : Nat × Value) => tmps.setIfInBounds x.1 x.2) a.tmps) = ((a.put (some t1) (ar x).1).put (some t2) (ar x).2).tmps := by simp [Act.put]
      rw [hrec, ← e] at hm'
      rw [hrec]
      refine roundIn_of_wpIn hfn (wpIn_mono hm' ?_)
      intro e a' w' h
      cases e <;> first | exact h | exact h.elim
theorem leaves1c {fn : Func} {Post : Value → World → Prop} {a : Act} (hf : Fits n [mark D] fr a) (hs : Sat (shelf D :: l) w) (h : ∀ w', Sat l w' → ∃ v, (results fn a.tmps).run P w' = .ok v w' ∧ Post v w') : LeavesInM (Wd none) 0 P fn a.tmps (fun e w' => ∃ v, e = .returned v ∧ Post v w') a.defers .returning w := by
  rw [hf.defers]
  obtain ⟨v, h1, h2⟩ := h _ (hs.putObj (o' := .deferred none)).tail
  exact ⟨by simp, .inl ⟨D, _, rfl, run_takeDeferred hs.obj_heap, _, h1, _, rfl, h2⟩⟩
theorem leaves0c {fn : Func} {Post : Value → World → Prop} {a : Act} (hf : Fits n [] fr a) (h : ∃ v, (results fn a.tmps).run P w = .ok v w ∧ Post v w) : LeavesInM (Wd none) 0 P fn a.tmps (fun e w' => ∃ v, e = .returned v ∧ Post v w') a.defers .returning w := by
  rw [hf.defers]
  obtain ⟨v, h1, h2⟩ := h
  exact ⟨_, h1, _, rfl, h2⟩
theorem MC.retMc {fn : Func} {Post : Value → World → Prop} (hs : Sat (shelf D :: l) w) (h : ∀ w', Sat l w' → ∀ a, Fits n [mark D] fr a → ∃ v, (results fn a.tmps).run P w' = .ok v w' ∧ Post v w') : MC ⟨P, none, n, bodyPostM (Wd none) 0 P fn fun e w' => ∃ v, e = .returned v ∧ Post v w'⟩ [mark D] (.code .ret :: k) fr w := fun _ hf =>
  wpIn_ret (by rw [post_ret]; exact leaves1c hf hs fun w' hw => h w' hw _ hf)
theorem MC.retMc0 {fn : Func} {Post : Value → World → Prop} (h : ∀ a, Fits n [] fr a → ∃ v, (results fn a.tmps).run P w = .ok v w ∧ Post v w) : MC ⟨P, none, n, bodyPostM (Wd none) 0 P fn fun e w' => ∃ v, e = .returned v ∧ Post v w'⟩ [] (.code .ret :: k) fr w := fun a hf =>
  wpIn_ret (by rw [post_ret]; exact leaves0c hf (h a hf))
theorem run_results3 {fn : Func} {l : List Assn} {b1 b2 b3 s1 s2 s3 c1 c2 c3 : Nat} {t1 t2 t3 e1 e2 e3 : TypeId} {v1 v2 v3 : Value} {z1 z2 z3 : List Value} {G1 G2 G3 : List Value → List Assn} {a : Act} [TyI P t1 false 1 c1 z1] [TyI P t2 false 1 c2 z2] [TyI P t3 false 1 c3 z3] [hA1 : At l b1 [v1] e1 G1] [hA2 : At l b2 [v2] e2 G2] [hA3 : At l b3 [v3] e3 G3]
    (hf : Fits n ds fr a) (hr : fn.results = #[.cell s1 t1, .cell s2 t2, .cell s3 t3]) (hs : Sat l w) (hx1 : lk fr s1 = some (.pointer (some ⟨b1, 0, none⟩))) (hx2 : lk fr s2 = some (.pointer (some ⟨b2, 0, none⟩))) (hx3 : lk fr s3 = some (.pointer (some ⟨b3, 0, none⟩))) : (results fn a.tmps).run P w = .ok (.tuple #[v1, v2, v3]) w := by
  have h : ∀ (t : TypeId) (b c : Nat) (e : TypeId) (z : List Value) (v : Value) (G : List Value → List Assn) [TyI P t false 1 c z] [hA : At l b [v] e G], (loadVar t ⟨b, 0, none⟩).run P w = .ok v w := fun t b c e z v G _ hA => by
    have hC := At.sat (h := hA) hs
    exact run_loadVar (P := P) (t := t) (w := w) (b := b) 0 [v] rfl (fun j u hj => by rw [hC.blk_cell]; rw [Nat.zero_add]; exact hj)
  have h1 := h t1 b1 c1 e1 z1 v1 G1
  have h2 := h t2 b2 c2 e2 z2 v2 G2
  have h3 := h t3 b3 c3 e3 z3 v3 G3
  unfold results
  rw [hr]
  simp [hf.slot s1 _ hx1, hf.slot s2 _ hx2, hf.slot s3 _ hx3, Array.getD_eq_getD_getElem?, asAddr, h1, h2, h3]
theorem Sat.app_swap {A B : List Assn} (h : Sat (A ++ B) w) : Sat (B ++ A) w := by
  have h : All (at_ (envOf w) A ++ at_ (envOf w) B) (hpOf w) := by rw [at_, at_, ← List.map_append]; exact h
  obtain ⟨a1, a2, ap, l1, l2, ha, hb⟩ := All.append_iff.1 h
  have := All.append_iff.2 ⟨a2, a1, fun i => (ap i).symm, l2, l1, hb, ha⟩
  rw [at_, at_, ← List.map_append] at this
  exact this
end
end Go.Sl

namespace Go.Pa
open Go.Tr
theorem sum_le {m : Nat} : ∀ {W : List Nat}, (∀ x ∈ W, x ≤ m) → W.sum ≤ m * W.length
  | [], _ => by simp
  | a :: W, h => by
    have h1 := sum_le (m := m) (W := W) fun x hx => h x (List.mem_cons_of_mem _ hx)
    have h2 := h a (List.mem_cons_self ..)
    rw [List.sum_cons, List.length_cons, Nat.mul_succ]
    omega
theorem sum_two (f : Nat → Nat) : ∀ k : Nat, ((List.range k).map fun i => f i + 2).sum = ((List.range k).map f).sum + 2 * k
  | 0 => rfl
  | k + 1 => by
    have h := sum_two f k
    rw [List.range_succ, List.map_append, List.map_append, List.sum_append, List.sum_append, h]
    simp; omega
def wts (n : Nd) : List Nat := if n.leaf then List.zipWith (fun k v : Bs => 2 + k.length + v.length) n.keys n.vals else n.keys.map fun k => 3 + k.length
theorem wts_eq {n : Nd} (h : n.sound) : (List.range n.keys.length).map n.weight = wts n := by
  obtain ⟨lf, keys, vals, kids⟩ := n
  obtain ⟨h1, h2, h3⟩ := h
  cases lf with
  | true =>
    have hv : vals.length = keys.length := by simp only [if_true] at h3; exact h3.1
    refine List.ext_getElem (by simp [wts, hv]) fun i g1 g2 => ?_
    have hi : i < keys.length := by simpa using g1
    simp [wts, Nd.weight, Nd.cell, List.getD_eq_getElem?_getD, List.getElem?_eq_getElem hi, List.getElem?_eq_getElem (show i < vals.length by omega)]
  | false =>
    refine List.ext_getElem (by simp [wts]) fun i g1 g2 => ?_
    have hi : i < keys.length := by simpa using g1
    simp [wts, Nd.weight, Nd.cell, List.getD_eq_getElem?_getD, List.getElem?_eq_getElem hi]
    omega
theorem wts_len {n : Nd} (h : n.sound) : (wts n).length = n.keys.length := by rw [← wts_eq h]; simp
theorem wts_at {n : Nd} (h : n.sound) {i : Nat} (hi : i < n.keys.length) : (wts n)[i]? = some (n.weight i) := by rw [← wts_eq h]; simp [hi]
theorem size_wts {n : Nd} (h : n.sound) : n.size = (if n.leaf then 2 else 4) + (wts n).sum := by
  have hw := wts_eq h
  rw [← hw]
  obtain ⟨lf, keys, vals, kids⟩ := n
  obtain ⟨h1, h2, h3⟩ := h
  unfold Nd.size
  cases lf with
  | true =>
    have e : (Nd.weight ⟨true, keys, vals, kids⟩) = Nd.cell ⟨true, keys, vals, kids⟩ := by funext i; simp [Nd.weight]
    rw [e]
    simp
  | false =>
    have hk : kids.length = keys.length + 1 := by simp only [Bool.false_eq_true, if_false] at h3; exact h3.2.1
    have e : (Nd.weight ⟨false, keys, vals, kids⟩) = fun i => Nd.cell ⟨false, keys, vals, kids⟩ i + 2 := by funext i; simp [Nd.weight]
    rw [e, sum_two]
    simp only [Bool.false_eq_true, if_false, hk]
    omega
theorem wts_leaf {n : Nd} (h : n.sound) (hl : n.leaf = true) : ∀ x ∈ wts n, x ≤ 82 := by
  intro x hx
  obtain ⟨i, hi, rfl⟩ := List.mem_iff_getElem.1 hx
  obtain ⟨lf, keys, vals, kids⟩ := n
  obtain ⟨h1, h2, h3⟩ := h
  obtain rfl : lf = true := hl
  simp only [if_true] at h3
  have hi' : i < keys.length ∧ i < vals.length := by simp [wts] at hi; omega
  have g1 : 1 ≤ keys[i].length ∧ keys[i].length ≤ 64 := h1 _ (List.getElem_mem hi'.1)
  have g2 : vals[i].length ≤ 16 := h3.2.2 _ (List.getElem_mem hi'.2)
  have e : (wts ⟨true, keys, vals, kids⟩)[i] = 2 + keys[i].length + vals[i].length := by simp [wts]
  rw [e]
  omega
theorem wts_kids {n : Nd} (h : n.sound) (hl : n.leaf = false) : ∀ x ∈ wts n, x ≤ 67 := by
  intro x hx
  obtain ⟨lf, keys, vals, kids⟩ := n
  obtain ⟨h1, h2, h3⟩ := h
  obtain rfl : lf = false := hl
  have e : wts ⟨false, keys, vals, kids⟩ = keys.map fun k => 3 + k.length := by simp [wts]
  rw [e] at hx
  obtain ⟨k, hk, rfl⟩ := List.mem_map.1 hx
  have := h1 k hk
  omega
theorem cutAt_sum {W : List Nat} {w : Nat → Nat} {k all : Nat} (hl : W.length = k) (hw : ∀ i, i < k → W[i]? = some (w i)) : ∀ (f a p : Nat), p = (W.take a).sum → k - 1 ≤ a + f → a ≤ k - 1 →
    (Go.Tr.cutAt w k all f a p = a ∨ (a < Go.Tr.cutAt w k all f a p ∧ 2 * (W.take (Go.Tr.cutAt w k all f a p - 1)).sum < all)) ∧ (Go.Tr.cutAt w k all f a p = k - 1 ∨ all ≤ 2 * (W.take (Go.Tr.cutAt w k all f a p)).sum)
  | 0, a, p, hp, h1, h2 => ⟨.inl rfl, .inl (by show a = k - 1; omega)⟩
  | f + 1, a, p, hp, h1, h2 => by
    unfold Go.Tr.cutAt
    by_cases hc : a < k - 1 ∧ 2 * p < all
    · rw [if_pos hc]
      have hp' : p + w a = (W.take (a + 1)).sum := by
        rw [List.take_add_one, hw a (by omega), List.sum_append, hp]; simp
      obtain ⟨g1, g2⟩ := cutAt_sum (all := all) hl hw f (a + 1) (p + w a) hp' (by omega) (by omega)
      refine ⟨.inr ?_, g2⟩
      rcases g1 with g1 | ⟨g1, g3⟩
      · rw [g1, Nat.add_sub_cancel, ← hp]; exact ⟨by omega, hc.2⟩
      · exact ⟨by omega, g3⟩
    · rw [if_neg hc]
      refine ⟨.inl rfl, ?_⟩
      rw [← hp]
      omega
theorem sum_drop (W : List Nat) (c : Nat) : W.sum = (W.take c).sum + (W.drop c).sum := by rw [← List.sum_append, List.take_append_drop]
theorem sum_take_le (W : List Nat) {a b : Nat} (h : a ≤ b) : (W.take a).sum ≤ (W.take b).sum := by
  have : W.take b = W.take a ++ (W.drop a).take (b - a) := by
    rw [← List.take_append_drop a (W.take b), List.take_take, Nat.min_eq_left h, List.drop_take]
  rw [this, List.sum_append]
  omega
theorem split_fits {n : Nd} (hs : n.sound) (hnr : ¬ n.right) (hb : n.size ≤ 338) : ∃ a c key, n.split = some (a, c, key) ∧ a.right ∧ c.right ∧ 1 ≤ key.length ∧ key.length ≤ 64 := by
  have hsz := size_wts hs
  have hwl := wts_len hs
  have hbig : 256 < n.size := by
    rcases Nat.lt_or_ge 256 n.size with h | h
    · exact h
    · exact absurd ⟨hs, h⟩ hnr
  have hwt : ∀ i, i < n.keys.length → (wts n)[i]? = some (n.weight i) := fun i hi => wts_at hs hi
  have hcs := cutAt_sum (all := (wts n).sum) hwl hwt n.keys.length 0 0 rfl (by omega) (by omega)
  have hcut : n.cut = Go.Tr.cutAt n.weight n.keys.length (wts n).sum n.keys.length 0 0 := by unfold Nd.cut; rw [wts_eq hs]
  rw [← hcut] at hcs
  cases hlf : n.leaf with
  | true =>
    rw [hlf, if_pos rfl] at hsz
    have hw := wts_leaf hs hlf
    have hsum := sum_le hw
    rw [hwl] at hsum
    have hk : 4 ≤ n.keys.length := by omega
    have hbd := cut_bd (n := n) (by omega)
    have hspl : n.split = some (⟨true, n.keys.take n.cut, n.vals.take n.cut, []⟩, ⟨true, n.keys.drop n.cut, n.vals.drop n.cut, []⟩, n.keys.getD n.cut []) := by
      unfold Nd.split
      rw [if_neg (by rw [hlf]; simp only [if_true]; rintro (h | h); · exact h hs
                     · omega), if_pos hlf]
    obtain ⟨c, hc⟩ : ∃ c, n.cut = c := ⟨_, rfl⟩
    rw [hc] at hspl hbd hcs
    obtain ⟨g1, g2⟩ := hcs
    have hr := rising_iff.1 hs.2.1
    have h3 := hs.2.2
    rw [hlf, if_pos rfl] at h3
    obtain ⟨hv, hk0, hv16⟩ := h3
    have hwz : wts n = List.zipWith (fun k v : Bs => 2 + k.length + v.length) n.keys n.vals := by unfold wts; rw [hlf, if_pos rfl]
    have hs1 : Nd.sound ⟨true, n.keys.take c, n.vals.take c, []⟩ := ⟨fun k hk => hs.1 k (List.mem_of_mem_take hk), rising_iff.2 (hr.sublist (List.take_sublist _ _)), by
      simp only [if_true]; exact ⟨by rw [List.length_take, List.length_take, hv], trivial, fun v h => hv16 v (List.mem_of_mem_take h)⟩⟩
    have hs2 : Nd.sound ⟨true, n.keys.drop c, n.vals.drop c, []⟩ := ⟨fun k hk => hs.1 k (List.mem_of_mem_drop hk), rising_iff.2 (hr.sublist (List.drop_sublist _ _)), by
      simp only [if_true]; exact ⟨by rw [List.length_drop, List.length_drop, hv], trivial, fun v h => hv16 v (List.mem_of_mem_drop h)⟩⟩
    have e1 : wts ⟨true, n.keys.take c, n.vals.take c, []⟩ = (wts n).take c := by rw [hwz, List.take_zipWith]; rfl
    have e2 : wts ⟨true, n.keys.drop c, n.vals.drop c, []⟩ = (wts n).drop c := by rw [hwz, List.drop_zipWith]; rfl
    have z1 := size_wts hs1
    have z2 := size_wts hs2
    rw [e1] at z1
    rw [e2] at z2
    simp only [if_true] at z1 z2
    have hsp := sum_drop (wts n) c
    have htk : ((wts n).take c).sum ≤ ((wts n).take (c - 1)).sum + 82 := by
      have : (wts n).take c = (wts n).take (c - 1) ++ [(wts n)[c - 1]'(by omega)] := by
        have := List.take_succ_eq_append_getElem (l := wts n) (i := c - 1) (by omega)
        rwa [show c - 1 + 1 = c by omega] at this
      rw [this, List.sum_append]
      have := hw _ (List.getElem_mem (show c - 1 < (wts n).length by omega))
      simpa using this
    have hdr : c = n.keys.length - 1 → ((wts n).drop c).sum ≤ 82 := fun h => by
      have h1 := sum_le (m := 82) (W := (wts n).drop c) fun x hx => hw x (List.mem_of_mem_drop hx)
      rw [List.length_drop, hwl, show n.keys.length - c = 1 by omega] at h1
      omega
    have hmem : n.keys.getD c [] ∈ n.keys := by
      rw [List.getD_eq_getElem?_getD, List.getElem?_eq_getElem (by omega)]; exact List.getElem_mem (by omega)
    have hkey := hs.1 _ hmem
    exact ⟨_, _, _, hspl, ⟨hs1, by omega⟩, ⟨hs2, by omega⟩, hkey.1, hkey.2⟩
  | false =>
    rw [hlf, if_neg (by decide)] at hsz
    have hw := wts_kids hs hlf
    have hsum := sum_le hw
    rw [hwl] at hsum
    have hk : 4 ≤ n.keys.length := by omega
    have hbd := cut_bd (n := n) (by omega)
    have hspl : n.split = some (⟨false, n.keys.take (max 2 n.cut - 1), [], n.kids.take (max 2 n.cut)⟩, ⟨false, n.keys.drop (max 2 n.cut), [], n.kids.drop (max 2 n.cut)⟩, n.keys.getD (max 2 n.cut - 1) []) := by
      unfold Nd.split
      rw [if_neg (by rw [hlf]; simp only [Bool.false_eq_true, if_false]; rintro (h | h); · exact h hs
                     · omega), if_neg (by rw [hlf]; decide)]
    obtain ⟨c, hc⟩ : ∃ c, n.cut = c := ⟨_, rfl⟩
    rw [hc] at hspl hbd hcs
    obtain ⟨a, ha⟩ : ∃ a, max 2 c = a := ⟨_, rfl⟩
    rw [ha] at hspl
    obtain ⟨g1, g2⟩ := hcs
    have hr := rising_iff.1 hs.2.1
    have h3 := hs.2.2
    rw [hlf, if_neg (by decide)] at h3
    obtain ⟨hv, hkk, hk8⟩ := h3
    have hwz : wts n = n.keys.map fun k => 3 + k.length := by unfold wts; rw [hlf, if_neg (by decide)]
    have hs1 : Nd.sound ⟨false, n.keys.take (a - 1), [], n.kids.take a⟩ := ⟨fun k hk => hs.1 k (List.mem_of_mem_take hk), rising_iff.2 (hr.sublist (List.take_sublist _ _)), by
      simp only [Bool.false_eq_true, if_false]; exact ⟨trivial, by rw [List.length_take, List.length_take]; omega, fun v h => hk8 v (List.mem_of_mem_take h)⟩⟩
    have hs2 : Nd.sound ⟨false, n.keys.drop a, [], n.kids.drop a⟩ := ⟨fun k hk => hs.1 k (List.mem_of_mem_drop hk), rising_iff.2 (hr.sublist (List.drop_sublist _ _)), by
      simp only [Bool.false_eq_true, if_false]; exact ⟨trivial, by rw [List.length_drop, List.length_drop]; omega, fun v h => hk8 v (List.mem_of_mem_drop h)⟩⟩
    have e1 : wts ⟨false, n.keys.take (a - 1), [], n.kids.take a⟩ = (wts n).take (a - 1) := by rw [hwz, ← List.map_take]; rfl
    have e2 : wts ⟨false, n.keys.drop a, [], n.kids.drop a⟩ = (wts n).drop a := by rw [hwz, ← List.map_drop]; rfl
    have z1 := size_wts hs1
    have z2 := size_wts hs2
    rw [e1] at z1
    rw [e2] at z2
    simp only [Bool.false_eq_true, if_false] at z1 z2
    have hsp := sum_drop (wts n) c
    have hsp2 := sum_drop (wts n) a
    have hac := sum_take_le (wts n) (show c ≤ a by omega)
    have h1 : ((wts n).take 1).sum ≤ 67 := by
      have h1 := sum_le (m := 67) (W := (wts n).take 1) fun x hx => hw x (List.mem_of_mem_take hx)
      rw [List.length_take, hwl, Nat.min_eq_left (by omega)] at h1
      omega
    have hleft : ((wts n).take (a - 1)).sum ≤ 200 := by
      rcases Nat.lt_or_ge c 2 with h | h
      · have : a = 2 := by omega
        subst this; show ((wts n).take 1).sum ≤ 200; omega
      · have : a = c := by omega
        subst this
        omega
    have hdr : c = n.keys.length - 1 → ((wts n).drop c).sum ≤ 67 := fun h => by
      have h1 := sum_le (m := 67) (W := (wts n).drop c) fun x hx => hw x (List.mem_of_mem_drop hx)
      rw [List.length_drop, hwl, show n.keys.length - c = 1 by omega] at h1
      omega
    have hmem : n.keys.getD (a - 1) [] ∈ n.keys := by
      rw [List.getD_eq_getElem?_getD, List.getElem?_eq_getElem (by omega)]; exact List.getElem_mem (by omega)
    have hkey := hs.1 _ hmem
    exact ⟨_, _, _, hspl, ⟨hs1, by omega⟩, ⟨hs2, by omega⟩, hkey.1, hkey.2⟩
end Go.Pa

namespace Go.Sl
open Go Go.ChangeShapes Go.WideShapes
theorem mapM_again {α β : Type} {f g : α → Option β} : ∀ {l : List α} {xs : List β}, l.mapM f = some xs → (∀ a y, a ∈ l → f a = some y → y ∈ xs → g a = some y) → l.mapM g = some xs
  | [], xs, h, _ => by simpa using h
  | a :: l, xs, h, hg => by
    rw [List.mapM_cons] at h ⊢
    cases ha : f a with
    | none => rw [ha] at h; simp at h
    | some y =>
      rw [ha] at h
      cases hl : l.mapM f with
      | none => rw [hl] at h; simp at h
      | some ys =>
        rw [hl] at h
        have h : y :: ys = xs := by simpa using h
        subst h
        rw [hg a y List.mem_cons_self ha List.mem_cons_self, mapM_again hl fun b z hm hb hz => hg b z (List.mem_cons_of_mem _ hm) hb (List.mem_cons_of_mem _ hz)]
        rfl
theorem mapM_range {β : Type} : ∀ (xs : List β) (f : Nat → Option β), (∀ i, i < xs.length → f i = xs[i]?) → (List.range xs.length).mapM f = some xs
  | [], _, _ => rfl
  | x :: xs, f, h => by
    have h0 := h 0 (by simp)
    have hr := mapM_range xs (fun i => f (i + 1)) fun i hi => by simpa using h (i + 1) (by simpa using hi)
    rw [List.length_cons, List.range_succ_eq_map, List.mapM_cons, h0, List.mapM_map]
    simp only [List.getElem?_cons_zero]
    have : (List.range xs.length).mapM (f ∘ Nat.succ) = some xs := hr
    rw [this]; rfl
def plain (P : Program) : Nat → TypeId → Bool
  | 0, _ => false
  | n + 1, t => match P.underlying t with
    | some .bool => true
    | some (.int _) => true
    | some .string => true
    | some (.slice e) => Nat.blt 0 (P.cellsOf e) && plain P n e
    | some (.struct fs) => fs.toList.all fun f => plain P n f.type
    | _ => false
section
variable {H : Type} {enc : TypeId × Value → H} {P : Program} {W W' : World} {sp : Nat → Bool}
theorem cells_again (hsame : ∀ i, i < W.heap.size → W'.heap[i]? = W.heap[i]?) {a : Addr} {n : Nat} {cs : List Value} (h : W.cells? 0 a n = some cs) (hn : 0 < n) : W'.cells? 0 a n = some cs := by
  have hlt := World.cells?_block h hn
  have e : ∀ i, W'.cell? (a.add i) = W.cell? (a.add i) := fun i => by
    have hb : (a.add i).block = a.block := by simp only [Addr.add]; split <;> rfl
    unfold World.cell?
    rw [hb, hsame _ hlt]
  unfold World.cells? at h ⊢
  simpa only [e] using h
end
end Go.Sl
