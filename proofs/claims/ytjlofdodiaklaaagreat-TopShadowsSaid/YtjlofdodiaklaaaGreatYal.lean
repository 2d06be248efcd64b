/-
  The reckoner's steps once more, what must hold on the way asked of a proof that is told here once | A tree's Put and Del | From a contract on parts of the heap to a row: what lay in the world lies there as it did | The reckoner's steps, as many as there are, in one word | More laws: slices of one-cell elements put together; append of noughts; results that lie in a cell | 'range' over a function that yields two values, which it makes as it goes
-/
import Derived.Test.YtjlofdodiaklaaaGreatYai
import Derived.Test.YtjlofdodiaklaaaGreatYaj
import Derived.ProofKit
import Derived.OpenShut
import Derived.JoinedCond
import Derived.WalkKit
import Derived.Test.YtjlofdodiaklaaaGreatYak
set_option linter.unusedVariables false
set_option linter.unusedSimpArgs false
namespace Go.Sl
open Go

theorem MC.go1 {X : Cx} (T : Tab) [TabOk X.P T] {ds : List Deferred} {k : List It} {fr : Fr} {w : World} {k' : List It} {fr' : Fr} {cs : List Prop} (h1 : (step T X.n fr k).isSome = true) (h : exec T X.n 1000 k fr [] = ⟨k', fr', cs⟩) (hm : MC X ds k' fr' w)
    (hc : Conds cs := by first | exact True.intro | (simp only [Conds, rng, Int.toNat_natCast, List.length_append, bytesV_length] <;> omega) | (simp [Conds, rng] <;> omega) | (simp only [Conds, rng, wrap_u8, wrap_u16, wrap_u32, wrap_u64] <;> omega)) : MC X ds k fr w :=
  MC.run T 1000 h hc hm
section
variable {X : Cx} {ds : List Deferred} {k : List It} {fr : Fr} {w : World} {det : Bool} {ops : Array Oper} {obs : Obs} {R : List (Nat × Oper)} {i : Nat} {d : Option Tmp} {op : Op} {ty : TypeId} {pos : String} {aft : Array Edge}
theorem zg (T : Tab) [TabOk X.P T] {k' : List It} {fr' : Fr} {cs : List Prop} (h1 : (step T X.n fr k).isSome = true) (h : exec T X.n 1000 k fr [] = ⟨k', fr', cs⟩) (hm : MC X ds k' fr' w)
    (hc : Conds cs := by first | exact True.intro | (simp only [Conds, rng, Int.toNat_natCast, List.length_append, bytesV_length] <;> omega) | (simp [Conds, rng] <;> omega) | (simp only [Conds, rng, wrap_u8, wrap_u16, wrap_u32, wrap_u64] <;> omega)) : MC X ds k fr w :=
  MC.run T 1000 h hc hm
theorem zp {j : Nat} {gb : Bool} {t : Nat} (hg : gslot ops ⟨d, op, ty, pos, aft, some (j, gb)⟩ = some t) {p : Prop} [Decidable p] (hv : lk fr t = some (.bool (decide p)))
    (h : MC X ds (.ops det ops obs ((i, ⟨d, op, ty, pos, aft, some (j, gb)⟩) :: R) :: k) ((t, true, .bool true) :: fr) w) (hp : p := by first | decide | omega) :
    MC X ds (.ops det ops obs ((i, ⟨d, op, ty, pos, aft, some (j, gb)⟩) :: R) :: k) fr w := MC.part hg hv (fun _ => h) (fun hn => absurd hp hn)
theorem zq {j : Nat} {gb : Bool} {t : Nat} (hg : gslot ops ⟨d, op, ty, pos, aft, some (j, gb)⟩ = some t) {p : Prop} [Decidable p] (hv : lk fr t = some (.bool (decide p)))
    (h : MC X ds (.ops det ops obs ((i, ⟨d, op, ty, pos, aft, some (j, gb)⟩) :: R) :: k) ((t, true, .bool false) :: fr) w) (hp : ¬ p := by first | decide | omega) :
    MC X ds (.ops det ops obs ((i, ⟨d, op, ty, pos, aft, some (j, gb)⟩) :: R) :: k) fr w := MC.part hg hv (fun hn => absurd hn hp) (fun _ => h)
theorem zt {c : Operand} {x y : Code} {p : Prop} [Decidable p] (hc : ev fr c = some (.bool (decide p))) (h : MC X ds (.code x :: k) fr w) (hp : p := by first | decide | omega) : MC X ds (.code (.cond c x y) :: k) fr w :=
  MC.cond hc (fun _ => h) (fun hn => absurd hp hn)
theorem zf {c : Operand} {x y : Code} {p : Prop} [Decidable p] (hc : ev fr c = some (.bool (decide p))) (h : MC X ds (.code y :: k) fr w) (hp : ¬ p := by first | decide | omega) : MC X ds (.code (.cond c x y) :: k) fr w :=
  MC.cond hc (fun hn => absurd hn hp) (fun _ => h)
end
section
variable {X : Cx} {P : Program} {ds : List Deferred} {k : List It} {fr : Fr} {w : World} {ops : Array Oper} {obs : Obs} {R : List (Nat × Oper)} {i : Nat} {d : Option Tmp} {op : Op} {ty t : TypeId} {x : Operand} {pos : String} {aft : Array Edge} {g : Option (Nat × Bool)} {l : List Assn} {b o : Nat} {cs : List Value} {e : TypeId} {G : List Value → List Assn} {v : Value} {bytes : Nat} {zero : List Value} {C : World → Prop}
theorem za [hI : TyI P t false 1 bytes zero] [hA : At l b cs e G] (hs : Sat l w) (hx : ev fr x = some (.pointer (some ⟨b, o, none⟩))) (h : cs[o]? = some v := by rfl) : LooksAt P ⟨d, .load t x, ty, pos, aft, g⟩ fr w (Sat [blk b cs e]) v := la_load1 hs hx h
theorem zl (h : LooksAt X.P ⟨d, op, ty, pos, aft, none⟩ fr w C v) (hk : MC X ds (.ops true ops [] R :: k) (setD d true v fr) w) (hd : okD X.n d = true := by rfl) :
    MC X ds (.ops true ops [] ((i, ⟨d, op, ty, pos, aft, none⟩) :: R) :: k) fr w := MC.la true h hd hk
theorem zm (h : LooksAt X.P ⟨d, op, ty, pos, aft, none⟩ fr w C v) (hk : MC X ds (.ops false ops ((i, C) :: obs) R :: k) (setD d true v fr) w) (hd : okD X.n d = true := by rfl) :
    MC X ds (.ops false ops obs ((i, ⟨d, op, ty, pos, aft, none⟩) :: R) :: k) fr w := MC.laD true h hd hk
end
theorem all1 {l : List Value} (h : l.all (fun u => u.oneCell') = true) : ∀ u ∈ l, u.oneCell' = true := fun u hu => List.all_eq_true.1 h u hu
end Go.Sl

namespace Go.Pa
open Go.Tr

def srt (l : List Pr) : Prop := l.Pairwise fun a b => ltB a.1 b.1 = true
theorem srt_ins {l : List Pr} {k v : Bs} (h : srt l) : srt (insL l k v) := by
  unfold insL srt
  rw [List.pairwise_append]
  refine ⟨h.sublist List.filter_sublist, List.pairwise_cons.2 ⟨fun x hx => (List.mem_filter.1 hx).2, h.sublist List.filter_sublist⟩, fun x hx y hy => ?_⟩
  have h1 := (List.mem_filter.1 hx).2
  rcases List.mem_cons.1 hy with rfl | hy
  · exact h1
  · exact ltB_trans h1 (List.mem_filter.1 hy).2
theorem srt_del {l : List Pr} {k : Bs} (h : srt l) : srt (delL l k) := by
  unfold delL srt
  rw [List.pairwise_append]
  exact ⟨h.sublist List.filter_sublist, h.sublist List.filter_sublist, fun x hx y hy => ltB_trans (List.mem_filter.1 hx).2 (List.mem_filter.1 hy).2⟩
theorem srt_split {l : List Pr} (k : Bs) (h : srt l) : l = l.filter (fun x => ltB x.1 k) ++ (l.filter (fun x => decide (x.1 = k)) ++ l.filter (fun x => ltB k x.1)) ∧ (l.filter (fun x => decide (x.1 = k))).length = (if hasK l k = true then 1 else 0) := by
  induction l with
  | nil => exact ⟨rfl, rfl⟩
  | cons a l ih =>
    obtain ⟨h1, h2⟩ := List.pairwise_cons.1 h
    obtain ⟨ih1, ih2⟩ := ih h2
    rcases ltB_total a.1 k with h3 | h3 | h3
    · have e1 : ltB k a.1 = false := ltB_asymm h3
      have e2 := ltB_ne h3
      constructor
      · rw [List.filter_cons_of_pos (p := fun x : Pr => ltB x.1 k) h3, List.filter_cons_of_neg (by simpa using e2), List.filter_cons_of_neg (by rw [e1]; decide), List.cons_append, ← ih1]
      · rw [List.filter_cons_of_neg (by simpa using e2), ih2]
        unfold hasK
        rw [List.any_cons, decide_eq_false e2, Bool.false_or]
    · subst h3
      have e1 : ∀ x ∈ l, ltB x.1 a.1 = false := fun x hx => ltB_asymm (h1 x hx)
      have e2 : ∀ x ∈ l, decide (x.1 = a.1) = false := fun x hx => decide_eq_false (ltB_ne (h1 x hx)).symm
      constructor
      · rw [List.filter_cons_of_neg (by rw [ltB_irrefl]; decide), filter_no (l := l) e1, List.filter_cons_of_pos (by simp), filter_no (l := l) e2, List.filter_cons_of_neg (by rw [ltB_irrefl]; decide), filter_all (l := l) fun x hx => h1 x hx]
        rfl
      · rw [List.filter_cons_of_pos (by simp), filter_no (l := l) e2]
        simp [hasK]
    · have hall : ∀ x ∈ l, ltB k x.1 = true := fun x hx => ltB_trans h3 (h1 x hx)
      have e2 := (ltB_ne h3).symm
      have e3 : ∀ x ∈ l, decide (x.1 = k) = false := fun x hx => decide_eq_false (ltB_ne (hall x hx)).symm
      constructor
      · rw [List.filter_cons_of_neg (by rw [ltB_asymm h3]; decide), filter_no (l := l) fun x hx => ltB_asymm (hall x hx), List.filter_cons_of_neg (by simpa using e2), filter_no (l := l) e3, List.filter_cons_of_pos (p := fun x : Pr => ltB k x.1) h3, filter_all (l := l) hall]
        rfl
      · rw [List.filter_cons_of_neg (by simpa using e2), filter_no (l := l) e3]
        have : hasK (a :: l) k = false := by
          unfold hasK
          rw [List.any_cons, decide_eq_false e2, Bool.false_or]
          exact List.any_eq_false.2 fun x hx => by rw [e3 x hx]; decide
        rw [this]; rfl
theorem len_split {l : List Pr} (k : Bs) (h : srt l) : l.length = (l.filter (fun x => ltB x.1 k)).length + ((if hasK l k = true then 1 else 0) + (l.filter (fun x => ltB k x.1)).length) := by
  obtain ⟨h1, h2⟩ := srt_split k h
  have h3 := congrArg List.length h1
  rw [List.length_append, List.length_append, h2] at h3
  exact h3
theorem len_ins {l : List Pr} {k v : Bs} (h : srt l) : (insL l k v).length = l.length + (if hasK l k = true then 0 else 1) := by
  have h3 := len_split k h
  have h4 : (insL l k v).length = (l.filter (fun x => ltB x.1 k)).length + ((l.filter (fun x => ltB k x.1)).length + 1) := by
    unfold insL; rw [List.length_append, List.length_cons]
  rw [h4]
  cases hh : hasK l k
  · rw [hh] at h3
    simp only [Bool.false_eq_true, if_false] at h3 ⊢
    omega
  · rw [hh] at h3
    simp only [if_true] at h3 ⊢
    omega
theorem len_del {l : List Pr} {k : Bs} (h : srt l) : (delL l k).length = l.length - (if hasK l k = true then 1 else 0) := by
  have h3 := len_split k h
  have h4 : (delL l k).length = (l.filter (fun x => ltB x.1 k)).length + (l.filter (fun x => ltB k x.1)).length := by
    unfold delL; rw [List.length_append]
  rw [h4]
  cases hh : hasK l k
  · rw [hh] at h3
    simp only [Bool.false_eq_true, if_false] at h3 ⊢
    omega
  · rw [hh] at h3
    simp only [if_true] at h3 ⊢
    omega
theorem del_no {l : List Pr} {k : Bs} (h : srt l) (hn : hasK l k = false) : delL l k = l := by
  obtain ⟨h1, h2⟩ := srt_split k h
  rw [hn, if_neg (by decide)] at h2
  rw [List.eq_nil_of_length_eq_zero h2, List.nil_append] at h1
  exact h1.symm
theorem hasK_len {l : List Pr} {k : Bs} (h : hasK l k = true) : 1 ≤ l.length := by
  cases l with
  | nil => cases h
  | cons a l => simp

def trT (t : T) (l : List Pr) : PA := match t.height with
  | 0 => fct (l = [])
  | h + 1 => trA full h t.root l
section
variable {E : En} {KK : List Nat} {s s' : St} {t : T} {h : Nat} {l : List Pr} {m : Md} {key value : Bs} {F : List PA}
theorem trT_zero (h0 : t.height = 0) : PS E KK (trT t l :: F) s ↔ l = [] ∧ PS E KK F s := by
  unfold trT; rw [h0]; exact PS.fct_iff
theorem trT_succ (h0 : t.height = h + 1) : PS E KK (trT t l :: F) s ↔ PS E KK (trA full h t.root l :: F) s := by
  unfold trT; rw [h0]
theorem grow_ok {P : Nd → Prop} (hP : ∀ n, full n → P n) (h0 : t.height = h + 1) (a : PS E KK (outA P h m l :: F) s) : Ok (growM E t m) s fun t' s' => t'.count = t.count ∧ ∃ h', t'.height = h' + 1 ∧ PS E KK (trA P h' t'.root l :: F) s' := by
  unfold growM
  cases ho : m.other with
  | none => exact Ok.pure ⟨rfl, h, h0, (out_one ho).1 a⟩
  | some o =>
    obtain ⟨l1, l2, rfl, h1, h2, _, a⟩ := (out_two ho).1 a
    dsimp only []
    refine Ok.bind ((putN_ok a).mono fun k s1 h3 => Ok.pure ⟨rfl, h + 1, by show t.height + 1 = _; rw [h0], ?_⟩)
    refine tr_ps.2 ⟨_, h3.1, hP _ (by unfold full; simp), h3.2.under fun q hq => ?_⟩
    have := fold_kids2 (A := []) (C := []) (p := m.page) (q := o) (lx := l1) (ly := l2) (K := [m.key]) (F := F) (h := h) (hp := q) ⟨h1, h2⟩ (by simpa [kidA] using hq)
    simpa [flat] using this
theorem shrink_ok {P : Nd → Prop} (h0 : t.height = h + 1) (a : PS E KK (trA P h t.root l :: F) s) : Ok (shrinkM E t) s fun t' s' => t'.count = t.count ∧ PS E KK (trT t' l :: F) s' := by
  obtain ⟨n, hr, _, a⟩ := tr_ps.1 a
  unfold shrinkM
  refine Ok.bind ((node_gets a hr).ok ?_)
  refine Ok.ite (fun hk => Ok.pure ⟨rfl, (trT_succ h0).2 (tr_ps.2 ⟨n, hr, ?_, a⟩)⟩) fun hk => ?_
  · unfold full; intro e; rw [e] at hk; simp at hk
  · have hk0 : n.keys = [] := List.eq_nil_of_length_eq_zero (by omega)
    refine Ok.bind ((drop_ok a).mono fun _ s1 h1 => Ok.pure ⟨rfl, ?_⟩)
    cases h with
    | zero =>
      obtain ⟨es, hn, rfl, h2⟩ := leaf_ps.1 h1
      have he : es = [] := by
        rw [hn] at hk0; exact List.map_eq_nil_iff.1 hk0
      subst he
      exact (trT_zero (by show t.height - 1 = 0; omega)).2 ⟨rfl, by simpa [entA] using h2⟩
    | succ h =>
      obtain ⟨ks, hn, rfl, hsp, h2⟩ := kids_ps.1 h1
      have hl := seps_len hsp
      rw [hk0, List.length_map] at hl
      obtain ⟨x, rfl⟩ : ∃ x, ks = [x] := List.length_eq_one_iff.1 hl
      refine (trT_succ (h := h) (by show t.height - 1 = _; omega)).2 ?_
      have hlf : n.leaf = false := by rw [hn]
      have hkd : n.kids.getD 0 0 = x.1 := by rw [hn]; rfl
      show PS E KK (trA full h (if n.leaf = true then 0 else n.kids.getD 0 0) (flat [x]) :: F) s1
      rw [hlf, if_neg (by decide), hkd]
      have e : flat [x] = x.2 := by simp [flat]
      rw [e]
      simpa [kidA] using h2
structure Holds (t : T) (l : List Pr) : Prop where
  srt : srt l
  cnt : t.count = l.length
theorem put_ok' (hl : Holds t l) (a : PS E KK (trT t l :: F) s) : Ok (putT E t key value) s fun t' s' => PS E KK (trT t' (insL l key value) :: F) s' ∧ Holds t' (insL l key value) := by
  unfold putT
  refine Ok.bind ((cell_ok (b := value) a).mono fun cell s1 h1 => ?_)
  refine Ok.ite (fun h0 => ?_) fun h0 => ?_
  · have h2 := h1.pickF 2 [1, 0] rfl rfl
    obtain ⟨rfl, h3⟩ := (trT_zero h0).1 h2
    refine Ok.bind ((putN_ok h3).mono fun k s2 h4 => Ok.pure ⟨?_, ?_⟩)
    · refine (trT_succ (t := ⟨k, 1, 1⟩) (h := 0) rfl).2 (tr_ps.2 ⟨_, h4.1, by unfold full; simp, h4.2.under fun q hq => ?_⟩)
      exact leaf_iff.2 ⟨[(key, cell, value)], rfl, rfl, hq⟩
    · exact ⟨srt_ins hl.srt, rfl⟩
  · obtain ⟨h, h5⟩ : ∃ h, t.height = h + 1 := ⟨t.height - 1, by omega⟩
    have h2 := (trT_succ h5).1 (h1.pickF 2 [1, 0] rfl rfl)
    rw [h5]
    refine Ok.bind ((insert_ok h h2).mono ?_)
    rintro ⟨m, fr⟩ s2 ⟨hfr, h3⟩
    dsimp only [] at hfr h3 ⊢
    refine (grow_ok (fun _ h => h) rfl h3).mono ?_
    rintro t' s3 ⟨hc, h', hh, h4⟩
    refine ⟨(trT_succ hh).2 h4, srt_ins hl.srt, ?_⟩
    rw [hc, len_ins hl.srt, hfr]
    show t.count + _ = _
    rw [hl.cnt]
    cases hasK l key <;> rfl
theorem del_ok' (hl : Holds t l) (a : PS E KK (trT t l :: F) s) : Ok (delT E t key) s fun x s' => x.2 = hasK l key ∧ PS E KK (trT x.1 (delL l key) :: F) s' ∧ Holds x.1 (delL l key) := by
  unfold delT
  refine Ok.ite (fun h0 => ?_) fun h0 => ?_
  · obtain ⟨rfl, h1⟩ := (trT_zero h0).1 a
    exact Ok.pure ⟨rfl, a, hl⟩
  · obtain ⟨h, h5⟩ : ∃ h, t.height = h + 1 := ⟨t.height - 1, by omega⟩
    have h2 := (trT_succ h5).1 a
    rw [h5]
    refine Ok.bind ((remove_ok h h2).mono ?_)
    rintro ⟨m, was⟩ s2 ⟨hfr, h3⟩
    dsimp only [] at hfr h3 ⊢
    cases was with
    | false =>
      rw [if_neg (by decide)] at h3 ⊢
      rw [h3]
      refine Ok.pure ⟨hfr, ?_, ?_⟩
      · rw [del_no hl.srt hfr.symm]; exact a
      · rw [del_no hl.srt hfr.symm]; exact hl
    | true =>
      rw [if_pos rfl] at h3 ⊢
      refine Ok.bind ((grow_ok (fun n hn hk => absurd hk hn) rfl h3).mono ?_)
      rintro t' s3 ⟨hc, h', hh, h4⟩
      refine Ok.bind ((shrink_ok hh h4).mono ?_)
      rintro t2 s4 ⟨hc2, h6⟩
      refine Ok.pure ⟨hfr, h6, srt_del hl.srt, ?_⟩
      show t2.count = _
      rw [hc2, hc, len_del hl.srt, ← hfr]
      show t.count - 1 = _
      rw [hl.cnt]; rfl
theorem look_gets {h : Nat} (h5 : t.height = h + 1) (a : PS E KK (trT t l :: F) s) : Gets E (getT E t.height t.root key) s (lookL l key) := by
  rw [h5]
  exact get_gets' h ((trT_succ h5).1 a)
end
end Go.Pa

namespace Go.Sl
open Go Go.ChangeShapes Go.WideShapes Go.ChangeAt Go.RowKit
theorem Sat.kept {l : List Assn} {W w : World} (h : Sat (old W :: l) w) : W.keptBut w (fun _ => False) := by
  have he := h.old_env
  simp only [envOf, Prod.mk.injEq] at he
  refine ⟨he.1, he.2, fun i hi => ?_⟩
  have r := (World.keptBut_refl W (fun _ => False)).2.2 i hi
  rw [h.old_same i hi]
  exact r
theorem Sat.frozen_old {l : List Assn} {W w : World} (h : Sat (old W :: l) w) (a : Addr) (ha : a.block < W.heap.size) : w.frozen? a = W.frozen? a := by
  unfold World.frozen?
  rw [h.old_same _ ha]
section
variable {H : Type} {enc : TypeId × Value → H} {P : Program}
theorem post_of_old {l : List Assn} {f : Func} {s : ChangeSpec} {apart fresh handsOn again : Bool} {W W' : World} {args : Array Value} {v : Value} {ds gs : List (DataW H)} {before pa pv : List MemPlace}
    (hS : Sat (old W :: l) W') (hW : DataW.Whole enc P f.params.toList s.vars apart W args.toList ds gs before)
    (hres : ∀ (b : Nat) (sp : Nat → Bool) (hd : Bool), DataW.TrodAll enc P W' b sp hd f.resultTypes.toList (v.resultList f.resultTypes.size) (s.fn H (ds ++ gs)).results [])
    (hargs : ∀ sp : Nat → Bool, (∀ p ∈ before, sp p.block = true) → DataW.TrodAll enc P W' 0 sp true f.params.toList args.toList (s.fn H (ds ++ gs)).args pa)
    (hvars : ∀ sp : Nat → Bool, (∀ p ∈ before, sp p.block = true) → DataW.TrodVars enc P W' sp s.vars (s.fn H (ds ++ gs)).vars pv)
    (hps : before = pa ++ pv)
    (hok : ∀ (j : Nat) (t : TypeId) (r : Value), f.resultTypes[j]? = some t → (v.resultList f.resultTypes.size)[j]? = some r → Value.okWide P W' .any 0 t r) :
    s.post enc P f apart fresh handsOn again W args v W' := by
  have hlt := hW.lt
  have hold : ∀ p ∈ before, (fun b => decide (b < W.heap.size)) p.block = true := fun p hp => by simpa using hlt p hp
  refine ⟨ds, gs, before, [], pa, pv, hW, hres _ _ _, hargs _ hold, hvars _ hold, World.keptBut_mono (fun p hp => hp.elim) hS.kept, fun _ => ?_⟩
  obtain ⟨_, _, _, _, _, hz, hn⟩ := hW
  refine ⟨hok, _, _, ([] ++ pa) ++ pv, ⟨[] ++ pa, pv, trodAll_append (hargs _ (fun _ _ => rfl)) (hres _ _ _), hvars _ (fun _ _ => rfl), rfl, ?_, ?_⟩, ?_⟩
  · intro b off hp
    have hp' : MemPlace.cell b off ∈ before := by rw [hps]; simpa using hp
    rw [hS.frozen_old _ (hlt _ hp')]
    exact hz b off hp'
  · intro ha
    simpa [hps] using hn ha
  · intro p hp _
    rw [hps]
    simpa using hp
end
end Go.Sl

namespace Go.Sl
open Go
section
variable {X : Cx} {ds : List Deferred} {k : List It} {fr : Fr} {w : World} {k' : List It} {fr' : Fr}
theorem zz (h : MC X ds k' fr' w) (hr : MC X ds k' fr' w → MC X ds k fr w := by
    intro h0
    repeat first | refine zg tab rfl rfl ?_ | refine zl (za hs rfl) ?_ | refine zq rfl rfl ?_ | refine zp rfl rfl ?_ | refine zf rfl ?_ | refine zt rfl ?_
    exact h0) : MC X ds k fr w := hr h
theorem zd (h : MC X ds k' fr' w) (hr : MC X ds k' fr' w → MC X ds k fr w := by
    intro h0
    repeat first | refine zg tab rfl rfl ?_ | refine zm (za hs rfl) ?_ | refine zq rfl rfl ?_ | refine zp rfl rfl ?_ | refine zf rfl ?_ | refine zt rfl ?_
    exact h0) : MC X ds k fr w := hr h
theorem zh {a b : Prop} (hb : b) (ha : a := by repeat first | exact True.intro | refine ⟨At.sat hs, ?_⟩ | refine ⟨Suf.sat hs, ?_⟩ | refine ⟨AtM.sat hs, ?_⟩) : a ∧ b := ⟨ha, hb⟩
end
end Go.Sl

namespace Go.Sl
open Go
section
variable {P : Program} {r : Option Nat} {fr : Fr} {d : Option Tmp} {ty : TypeId} {pos : String} {aft : Array Edge} {g : Option (Nat × Bool)} {v u z vx vy : Value} {x y c i : Operand} {t s e : TypeId} {w : World} {l F : List Assn} {b o : Nat} {cs : List Value} {G : List Value → List Assn}

def upto : Nat → Nat → List Nat
  | _, 0 => []
  | k, n + 1 => k :: upto (k + 1) n
def ones : Nat → List Value → List (Nat × List Value)
  | _, [] => []
  | k, v :: vs => (k, [v]) :: ones (k + 1) vs
theorem lay_ones : ∀ (vs a zs : List Value), zs.length = vs.length → lay (fun i => some (i * 1, 1)) (a ++ zs) (ones a.length vs) = some (a ++ vs)
  | [], a, zs, h => by
    have : zs = [] := List.eq_nil_of_length_eq_zero h
    subst this; rfl
  | v :: vs, a, z :: zs, h => by
    simp only [ones, lay, splice]
    rw [show a.length * 1 = a.length from Nat.mul_one _]
    have e : (a ++ z :: zs).set a.length v = (a ++ [v]) ++ zs := by simp [List.set_append]
    rw [e]
    have := lay_ones vs (a ++ [v]) zs (by simpa using h)
    rw [List.length_append, List.length_singleton] at this
    rw [this]
    simp
theorem layOk_ones (n : Nat) : ∀ (vs : List Value) (k : Nat), k + vs.length ≤ n → layOk (fun i => some (i * 1, 1)) n (ones k vs)
  | [], _, _ => trivial
  | v :: vs, k, h => ⟨⟨k * 1, rfl, by simp at h ⊢; omega⟩, layOk_ones n vs (k + 1) (by simp at h ⊢; omega)⟩
theorem evps_ones {fr : Fr} : ∀ (ps : List (Nat × Operand)) (vs : List Value) (k : Nat), ps.map (·.1) = upto k vs.length → evs fr (ps.map (·.2)) = some vs → evps fr ps = some ((upto k vs.length).zip vs)
  | [], vs, k, h1, h2 => by simp [evs] at h2; subst h2; rfl
  | (i, x) :: ps, vs, k, h1, h2 => by
    simp only [List.map_cons, evs] at h2
    split at h2
    · rename_i v vs' e1 e2
      cases h2
      simp only [List.length_cons, upto, List.map_cons, List.cons.injEq] at h1
      obtain ⟨rfl, h1⟩ := h1
      simp only [evps, e1, evps_ones ps vs' (i + 1) h1 e2, List.length_cons, upto, List.zip_cons_cons]
    · cases h2
theorem zip_ones : ∀ (vs : List Value) (k : Nat), (∀ v ∈ vs, v.oneCell' = true) → ((upto k vs.length).zip vs).map (fun p => (p.1, p.2.cells)) = (ones k vs).map (fun p => (p.1, p.2.toArray))
  | [], _, _ => rfl
  | v :: vs, k, h => by
    simp only [List.length_cons, upto, List.zip_cons_cons, List.map_cons, ones]
    rw [zip_ones vs (k + 1) fun u hu => h u (List.mem_cons_of_mem _ hu), oneCell'_cells (h v List.mem_cons_self)]
theorem does_buildL {bytes : Nat} {zero : List Value} [hT : TyU P t (.slice e)] [hI : TyI P e false 1 bytes zero] {n : Nat} {ps : Array (Nat × Operand)} {vs : List Value} (hs : Sat l w) (hv : evs fr (ps.toList.map (·.2)) = some vs)
    (hp : ps.toList.map (·.1) = upto 0 vs.length) (hn : vs.length = n) (h1 : ∀ v ∈ vs, v.oneCell' = true) (hb : Nat.ble n 16777216 = true) :
    Does P r ⟨d, .buildSlice t n ps, ty, pos, aft, g⟩ fr w (fun v w' => ∃ b, v = .slice (some ⟨b, 0, none⟩) n n ∧ Sat (blk b vs e :: l) w') := by
  obtain ⟨i, hi, h2, h3, h4, h5, h6, h7⟩ := hI.info
  have hz : (rep n zero).length = vs.length := by rw [rep_length, h6, hn, Nat.mul_one]
  refine does_buildSlice (zero := zero) (size := 1) (agg := false) (ls := ones 0 vs) (out := vs) hs (evps_ones _ vs 0 hp hv) (zip_ones vs 0 h1) ?_ ?_ (by simpa using hb)
  · exact layOk_ones _ vs 0 (by rw [hz]; omega)
  · exact lay_ones vs [] (rep n zero) hz

theorem rep_zeroCells (z : List Value) (n : Nat) (hz : 0 < z.length) : Builtin.zeroCells z.toArray n = (rep n z).toArray := by
  rw [← zeros_eq n z (.inr hz)]
  unfold Builtin.zeroCells madeCells
  simp
theorem run_append0 {agg : Bool} {size bytes : Nat} {zero : List Value} [hT : TyU P t (.slice e)] [hI : TyI P e agg size bytes zero] {tx : TypeId} {kd : IntKind} [hK : TyU P tx (.int kd)] {kv : IntKind} {n m : Nat} {xs : List Value} (ty : TypeId) (hs : Sat (sl v e size n xs :: l) w) (h0 : 0 < size) (hb : (n + m) * bytes ≤ 140737488355328) (hm : n + m ≤ 9223372036854775807) :
    ∃ v' w', (Builtin.append_ #[t, tx] ty #[v, .int kv (m : Int)]).run P w = .ok v' w' ∧ ∀ rest, Sat (sl v e size n xs :: rest) w → Sat (sl v' e size (n + m) (xs ++ rep m zero) :: rest) w' := by
  obtain ⟨i, hi, h2, h3, h4, h5, h6, h7⟩ := hI.info
  have hzc := TyI.zero_cells P e (agg := agg) (zero := zero)
  have hzA : ∀ w' : World, (zeroValue e).run P w' = .ok (if agg then .agg zero.toArray else zero.headD undef) w' := fun w' => TyI.run_zero (P := P) (t := e) w'
  generalize (if agg then Value.agg zero.toArray else zero.headD undef) = z0 at hzc hzA
  have hw1 : IntKind.i64.wrap (m : Int) = m := wrap64 (by omega)
  have hneg : ¬ ((m : Int) < 0) := by omega
  have hbig : ¬ (281474976710656 < (m : Int) * (i.bytes : Int)) := by
    have h9 : m * bytes ≤ (n + m) * bytes := Nat.mul_le_mul_right _ (by omega)
    have : ((m * bytes : Nat) : Int) ≤ 140737488355328 := by omega
    rw [Int.natCast_mul] at this; rw [h3]; omega
  have hlen : (rep m zero).length = m * size := by rw [rep_length, h6]
  have hones : ∀ u ∈ rep m zero, u.oneCell' = true := by
    intro u hu
    unfold rep at hu
    obtain ⟨z', hz', hu'⟩ := List.mem_flatten.1 hu
    rw [(List.mem_replicate.1 hz').2] at hu'
    exact List.all_eq_true.1 h7 u hu'
  have grow : ∀ (base : Option Addr) (c : Nat), v = .slice base n c → n ≤ c → c < n + m → (Builtin.firstCells i.size n (.slice base n c)).run P w.drew = .ok xs.toArray w.drew → xs.length = n * size →
      ∃ v' w', (Builtin.append_ #[t, tx] ty #[v, .int kv (m : Int)]).run P w = .ok v' w' ∧ ∀ rest, Sat (sl v e size n xs :: rest) w → Sat (sl v' e size (n + m) (xs ++ rep m zero) :: rest) w' := by
    rintro base c rfl hnc hc hold hxl
    have hn : ¬ (n + m ≤ c) := by omega
    have h63' : ¬ (9223372036854775807 < ((n : Int) + (m : Int))) := by omega
    have hfit := growslice_fits (need := n + m) (old := c) (bytes := i.bytes) hc (by rw [h3]; exact hb)
    have h48' : ¬ (281474976710656 < Builtin.nextslicecap (n + m) c * i.bytes) := by omega
    have hr : (Builtin.append_ #[t, tx] ty #[.slice base n c, .int kv (m : Int)]).run P w =
      .ok (.slice (some ⟨w.heap.size, 0, none⟩) (n + m) (grownCap w (n + m) c e))
        (w.drew.alloc (.cells ((xs ++ rep m zero).toArray ++ Builtin.zeroCells zero.toArray (grownCap w (n + m) c e - (n + m))) e)) := by
      by_cases hz' : m * i.size = 0
      · have hre : rep m zero = [] := List.eq_nil_of_length_eq_zero (by rw [hlen, ← h2]; exact hz')
        have hm0 : m = 0 := by
          rcases Nat.mul_eq_zero.1 hz' with h | h
          · exact h
          · omega
        omega
      · have hm0 : ¬ m = 0 := by rintro rfl; simp at hz'
        have hsz0 : ¬ i.size = 0 := by intro h; rw [h] at hz'; simp at hz'
        simp [Builtin.append_, run_underlying hT.h, run_underlying hK.h, sizeOf, typeInfo, hi, asInt, asIntOf, hw1, hneg, hbig, hn, h63', h48', hz', Question.forced, hold, hzA, hzc, newRow, grownCap]
        congr 2
        apply Array.ext'
        simp [rep_zeroCells zero m (by omega), List.append_assoc]
    refine ⟨_, _, hr, fun rest hrest => ?_⟩
    have hge := grownCap_ge w (n + m) c e
    have hzl : (Builtin.zeroCells zero.toArray (grownCap w (n + m) c e - (n + m))).size = (grownCap w (n + m) c e - (n + m)) * size := by
      rw [size_zeroCells]; simp [h6]
    have hal := (hrest.tail.drew).alloc (xs ++ rep m zero ++ (Builtin.zeroCells zero.toArray (grownCap w (n + m) c e - (n + m))).toList) e
    have hd : w.drew.heap.size = w.heap.size := rfl
    rw [hd] at hal
    have he : (xs ++ rep m zero ++ (Builtin.zeroCells zero.toArray (grownCap w (n + m) c e - (n + m))).toList).toArray = (xs ++ rep m zero).toArray ++ Builtin.zeroCells zero.toArray (grownCap w (n + m) c e - (n + m)) := by simp
    rw [he] at hal
    refine hal.sl_mk (c := grownCap w (n + m) c e) hge (by simp [hxl, hlen, Nat.add_mul]) ?_
    simp only [List.length_append, hxl, hlen, Array.length_toList, hzl, ← Nat.add_mul]
    congr 1; omega
  rcases hs.sl_cases with ⟨rfl, rfl, rfl, hl⟩ | ⟨b, c, spare, rfl, hnc, hxl, hcl, hl⟩
  · by_cases hm0 : m = 0
    · subst hm0
      refine ⟨.slice none 0 0, w, ?_, fun rest h => by simpa [rep] using h⟩
      have e0 : IntKind.i64.wrap 0 = 0 := wrap64 (by omega)
      simp [Builtin.append_, run_underlying hT.h, run_underlying hK.h, sizeOf, typeInfo, hi, asInt, asIntOf, e0]
    · exact grow none 0 rfl (by omega) (by omega) (run_firstCells_none w.drew i.size 0 0 0) (by simp)
  · by_cases hroom : n + m ≤ c
    · have hnl : n * size + (rep m zero).length ≤ (xs ++ spare).length := by
        rw [List.length_append, hcl, hlen, ← Nat.add_mul]; exact Nat.mul_le_mul_right _ hroom
      obtain ⟨w', hr, hS⟩ := run_storeCells (P := P) b (n * size) (rep m zero) 0 (xs ++ spare) w hl (by omega) hones
      refine ⟨.slice (some ⟨b, 0, none⟩) (n + m) c, w', ?_, fun rest hrest => ?_⟩
      · by_cases hz' : m * i.size = 0
        · have hre : rep m zero = [] := List.eq_nil_of_length_eq_zero (by rw [hlen, ← h2]; exact hz')
          rw [hre] at hr
          have hm0 : m = 0 := by
            rcases Nat.mul_eq_zero.1 hz' with h | h
            · exact h
            · omega
          subst hm0
          have e0 : IntKind.i64.wrap 0 = 0 := wrap64 (by omega)
          have hroom' : n ≤ c := hnc
          simp [Builtin.append_, run_underlying hT.h, run_underlying hK.h, sizeOf, typeInfo, hi, asInt, asIntOf, e0, hroom', h2, Addr.add_lit, hr]
        · have hm0 : ¬ m = 0 := by rintro rfl; simp at hz'
          have hz2 : ¬ m * size = 0 := by rw [← h2]; exact hz'
          simp [Builtin.append_, run_underlying hT.h, run_underlying hK.h, sizeOf, typeInfo, hi, asInt, asIntOf, hw1, hneg, hbig, hroom, hz2, hzA, hzc, h2, Addr.add_lit, rep_zeroCells zero m (by omega), hr]
      · rcases hrest.sl_cases with ⟨hv, _⟩ | ⟨b', c', spare', hv, _, _, hcl', hl'⟩
        · cases hv
        · cases hv
          have hsp : spare' = spare := by
            obtain ⟨f, e1, _⟩ := hl.blk_heap
            obtain ⟨f', e2, _⟩ := hl'.blk_heap
            rw [e1] at e2
            have e3 := Option.some.inj e2
            injection e3 with e3
            have e4 : xs ++ spare = xs ++ spare' := by
              have := congrArg Array.toList e3
              simpa using this
            exact (List.append_cancel_left e4).symm
          subst hsp
          have := hS rest hl'
          rw [Nat.add_zero, ← hxl, splice_eq (rep m zero) (xs ++ spare') xs.length (by rw [hxl]; exact hnl), List.take_left, hxl] at this
          have hdrop : List.drop (n * size + (rep m zero).length) (xs ++ spare') = spare'.drop (rep m zero).length := by rw [← hxl, ← List.drop_drop, List.drop_left]
          rw [hdrop] at this
          refine this.sl_mk hroom (by simp [hxl, hlen, Nat.add_mul]) ?_
          simp only [List.length_append, List.length_drop] at hnl ⊢
          omega
    · refine grow (some ⟨b, 0, none⟩) c rfl hnc (by omega) ?_ hxl
      rw [h2]
      refine run_firstCells_some w.drew size n ⟨b, 0, none⟩ n c xs hxl fun j x hj => ?_
      rw [Addr.add_lit]
      have := hl.blk_cell (0 + j)
      rw [Nat.zero_add] at this ⊢
      show w.cell? _ = _
      rw [this, List.getElem?_append_left (List.getElem?_eq_some_iff.1 hj).1]
      exact hj
theorem does_append0 {agg : Bool} {size bytes : Nat} {zero : List Value} [hT : TyU P t (.slice e)] [hI : TyI P e agg size bytes zero] {tx : TypeId} {kd : IntKind} [hK : TyU P tx (.int kd)] {kv : IntKind} {n m : Nat} {m' : Int} {xs : List Value} {G : Assn → List Assn} [hA : AtS l v e size n xs G] (hs : Sat l w) (hx : ev fr x = some v) (hy : ev fr y = some (.int kv m')) (hm' : m' = (m : Int)) (h0 : Nat.blt 0 size = true) (hb : (n + m) * bytes ≤ 140737488355328) (hm : n + m ≤ 9223372036854775807) :
    Does P r ⟨d, .call { callee := .builtin .append, args := #[x, y], argTypes := #[t, tx] }, ty, pos, aft, g⟩ fr w (fun v' w' => Sat (G (sl v' e size (n + m) (xs ++ rep m zero))) w') := by
  subst hm'
  refine does_value fun _ ds a hf => ?_
  obtain ⟨i, h1, h2⟩ := hA.out
  obtain ⟨v', w', hr, hS⟩ := run_append0 (P := P) (t := t) (tx := tx) (kv := kv) (m := m) ty (hs.pull i h1) (by simpa using h0) hb hm
  refine ⟨v', w', ?_, ?_⟩
  · simp [execOp, resolve, invoke, builtin, hf.ev hx, hf.ev hy, hr]
  · rw [h2]; exact hs.set_at i h1 hS
end

section
variable {P : Program} {n : Nat} {fr : Fr} {w : World} {fn : Func} {Post : Value → World → Prop} {k : List It} {l : List Assn} {b o : Nat} {cs : List Value} {t e : TypeId} {G : List Value → List Assn}
theorem run_results_cell {agg : Bool} {size bytes : Nat} {zero : List Value} {s : Nat} {ds : List Deferred} {a : Act} [hI : TyI P t agg size bytes zero] [hA : At l b cs e G] (hf : Fits n ds fr a) (hr : fn.results = #[.cell s t]) (hs : Sat l w) (hx : lk fr s = some (.pointer (some ⟨b, o, none⟩))) {vs : List Value} (h : (cs.drop o).take size = vs) (hl : vs.length = size) (h0 : Nat.blt 0 size = true) :
    (results fn a.tmps).run P w = .ok (valOf agg vs) w := by
  have hC := At.sat (h := hA) hs
  have hlen : ∀ (j : Nat) (u : Value), vs[j]? = some u → w.cell? ⟨b, o + j, none⟩ = some u := fun j u hj => by
    rw [hC.blk_cell (o + j)]
    rw [← h, List.getElem?_take] at hj
    split at hj
    · rwa [List.getElem?_drop] at hj
    · cases hj
  have h1 := run_loadVar (P := P) (t := t) (w := w) (b := b) o vs hl hlen
  unfold results
  rw [hr]
  simp [hf.slot s _ hx, Array.getD_eq_getD_getElem?, asAddr, h1]
theorem MC.retC {agg : Bool} {size bytes : Nat} {zero : List Value} {s : Nat} [hI : TyI P t agg size bytes zero] [hA : At l b cs e G] (hr : fn.results = #[.cell s t]) (hs : Sat l w) (hx : lk fr s = some (.pointer (some ⟨b, o, none⟩))) {vs : List Value} (h : (cs.drop o).take size = vs) (hl : vs.length = size) (h0 : Nat.blt 0 size = true) (hP : Post (valOf agg vs) w) :
    MC ⟨P, none, n, bodyPost P fn fun e w' => ∃ v, e = .returned v ∧ Post v w'⟩ [] (.code .ret :: k) fr w := fun _ hf =>
  wpIn_ret (by rw [post_ret]; exact ⟨hf.defers, _, run_results_cell hf hr hs hx h hl h0, _, rfl, hP⟩)
end
theorem MC.cutAtS {σ : Type} {X : Cx} {ds : List Deferred} {k : List It} {fr : Fr} {w : World} (j : Nat) (F : σ → Fr) (I : σ → World → Prop) (hn : noOps (k.take j) = true) (h2 : ∀ s w', I s w' → MC X ds (k.drop j) (F s) w')
    (h1 : MC X ds (k.take j ++ .goal (fun a' w' => ∃ s, Fits X.n ds (F s) a' ∧ I s w') :: k.drop j) fr w) : MC X ds k fr w := fun a hf => by
  have := post_cut (fun a w ⟨s, h, hI⟩ => h2 s w hI a h) (k.take j) .normal a w hn (h1 a hf)
  rwa [List.take_append_drop] at this
theorem MC.meetS {σ : Type} {X : Cx} {ds : List Deferred} {k : List It} {fr : Fr} {w : World} {F : σ → Fr} {I : σ → World → Prop} (s : σ) (hF : incl fr (F s)) (hI : I s w) : MC X ds (.goal (fun a' w' => ∃ s, Fits X.n ds (F s) a' ∧ I s w') :: k) fr w :=
  fun _ hf => ⟨s, hf.sub hF.sub, hI⟩
end Go.Sl

namespace Go.Sl
open Go
section
variable {P : Program} {n : Nat} {fr : Fr} {w : World} {l : List Assn} {k : List It} {ds : List Deferred} {Q : Po} {R : Ending → World → Prop} {L D : Nat} {rec : Loop}
def Iter2 {σ : Type} (P : Program) (gf : FuncId) (lb : List Value) (J0 JN : List Assn) (ar : σ → Value × Value) (Jy Jn : σ → List Assn) (pre : List Assn) (Jx : World → Prop) : Prop :=
  ∀ L w, (∀ x w, Sat (pre ++ Jy x) w → Yd P L [(ar x).1, (ar x).2] w fun v w' => (v = .bool true ∧ Sat (pre ++ Jn x) w') ∨ (v = .bool false ∧ Jx w')) → Sat (pre ++ J0) w → Ret P gf (.func (.yield L) #[] #[] :: lb) w fun _ w' => Sat (pre ++ JN) w' ∨ Jx w'
theorem MC.rangeFunc2 {σ : Type} {X : Cx} (hX : X.r = none) {g : Operand} {t1 t2 : Nat} {assign body : Code} {gf : FuncId} [hF : Fun X.P gf] {lb : List Value} (J0 JN : List Assn) (ar : σ → Value × Value) (Jy Jn : σ → List Assn) (cs : List Code) (lx : Code → List Assn)
    (hg : ev fr g = some (.func (.func gf) #[] lb.toArray)) (ht1 : okD X.n (some t1) = true) (ht2 : okD X.n (some t2) = true) (hs : Sat J0 w)
    (iter : ∀ (pre : List Assn) (Jx : World → Prop), Iter2 X.P gf lb J0 JN ar Jy Jn pre Jx)
    (round : ∀ (L D : Nat) (x : σ) (rec : Loop) (w : World), isReady rec → Sat (lp L rec :: shelf D :: Jy x) w →
      MC ⟨X.P, some L, X.n, fun _ _ _ => False⟩ [] [.code assign, .goal (Begin X.P L body (Rnd L D rec (Jn x) cs lx))] ((t2, true, (ar x).2) :: (t1, true, (ar x).1) :: fr) w)
    (hdone : ∀ D w', Sat (shelf D :: JN) w' → MC X (mark D :: ds) k fr w')
    (hstop : ∀ c D w', c ∈ cs → Sat (shelf D :: lx c) w' → MC X (mark D :: ds) (.code c :: k) fr w') :
    MC X ds (.code (.rangeFunc g #[t1, t2] assign body) :: k) fr w := fun a hf => by
  obtain ⟨P, r, n, Q⟩ := X
  subst hX
  refine wpIn_rangeFunc ?_
  intro fn hfn
  obtain ⟨rec, hrec⟩ : ∃ rec : Loop, rec = { state := .ready, pending := none, fn, tmps := a.tmps, params := #[t1, t2], assign, body, defers := w.heap.size } := ⟨_, rfl⟩
  have hready : isReady rec := by rw [hrec]; exact ⟨rfl, rfl⟩
  have hs1 : Sat (shelf w.heap.size :: J0) (w.alloc (.deferred (some []))) := hs.allocObj _
  have hs2 : Sat (lp (w.heap.size + 1) rec :: shelf w.heap.size :: J0) ((w.alloc (.deferred (some []))).alloc (.loop rec)) := by
    have := hs1.allocObj (.loop rec); rwa [World.size_alloc] at this
  refine ⟨w.heap.size + 1, [mark w.heap.size], (w.alloc (.deferred (some []))).alloc (.loop rec), { target := .fn (.func gf) lb.toArray, args := #[.func (.yield (w.heap.size + 1)) #[] #[]] }, (w.alloc (.deferred (some []))).alloc (.loop rec), gf,
    #[.func (.yield (w.heap.size + 1)) #[] #[]] ++ lb.toArray, (w.alloc (.deferred (some []))).alloc (.loop rec), ?_, ?_, fun _ _ => trivial, ?_, fun h => by simp [Wd] at h, ?_⟩
  · rw [hrec]; exact run_enterLoop_outer _ _ _ _ _
  · simp only [resolve, hf.ev hg]
    simp [go_sem]
  · have := hF.h (#[.func (.yield (w.heap.size + 1)) #[] #[]] ++ lb.toArray) ((w.alloc (.deferred (some []))).alloc (.loop rec))
    simp at this
    simp [invoke, go_sem, this]
  · have hit := iter [lp (w.heap.size + 1) rec, shelf w.heap.size] (fun w' => ∃ c, c ∈ cs ∧ Sat (lp (w.heap.size + 1) { rec with state := .done, pending := some c } :: shelf w.heap.size :: lx c) w') (w.heap.size + 1) _ (fun x w1 h1 => ?_) hs2
    · have hit' := (callsIn_wd (r := none) (n := 0)).2 hit
      have e : (.func (.yield (w.heap.size + 1)) #[] #[] :: lb : List Value).toArray = #[.func (.yield (w.heap.size + 1)) #[] #[]] ++ lb.toArray := by simp
      rw [e] at hit'
      refine hit'.mono ?_
      rintro _ w2 ⟨v, rfl, h2 | ⟨c, hc, h2⟩⟩
      · have h2 : Sat (lp (w.heap.size + 1) rec :: shelf w.heap.size :: JN) w2 := h2
        refine ⟨none, _, by have := run_endLoop (P := P) h2.obj_heap (by rw [hready.1]; simp); rw [hready.2] at this; exact this, ?_⟩
        exact hdone _ _ (h2.putObj).tail _ ⟨hf.size, by simp [hf.defers], hf.slot⟩
      · refine ⟨some c, _, run_endLoop (P := P) h2.obj_heap (by simp), ?_⟩
        exact hstop _ _ _ hc (h2.putObj).tail _ ⟨hf.size, by simp [hf.defers], hf.slot⟩
    · have h1 : Sat (lp (w.heap.size + 1) rec :: shelf w.heap.size :: Jy x) w1 := h1
      have hy := run_yield (P := P) (args := #[(ar x).1, (ar x).2]) h1.obj_heap (by rw [hrec]; rfl)
      refine ⟨rec.fn, _, rec.assign, rec.body, hy, ?_⟩
      have hf1 := hf.setD (d := some t1) ht1 true (ar x).1
      have hf' := hf1.setD (d := some t2) ht2 true (ar x).2
      have hm := round (w.heap.size + 1) w.heap.size x rec w1 hready h1 { tmps := ((a.put (some t1) (ar x).1).put (some t2) (ar x).2).tmps, defers := [] } ⟨hf'.size, rfl, hf'.slot⟩
      have hm' : assign.wpIn (Wd (some (w.heap.size + 1))) 0 P (post P (some (w.heap.size + 1)) (fun _ _ _ => False) [.goal (Begin P (w.heap.size + 1) body (Rnd (w.heap.size + 1) w.heap.size rec (Jn x) cs lx))]) { tmps := ((a.put (some t1) (ar x).1).put (some t2) (ar x).2).tmps, defers := [] } w1 := hm
      have e : ((#[t1, t2].zip #[(ar x).1, (ar x).2]).foldl (fun (tmps : Array Value) (x : Nat × Value) => tmps.setIfInBounds x.1 x.2) a.tmps) = ((a.put (some t1) (ar x).1).put (some t2) (ar x).2).tmps := by simp [Act.put]
      rw [hrec, ← e] at hm'
      rw [hrec]
      refine roundIn_of_wpIn hfn (wpIn_mono hm' ?_)
      intro e a' w' h
      cases e <;> first | exact h | exact h.elim
theorem leaves1c {fn : Func} {Post : Value → World → Prop} {a : Act} (hf : Fits n [mark D] fr a) (hs : Sat (shelf D :: l) w) (h : ∀ w', Sat l w' → ∃ v, (results fn a.tmps).run P w' = .ok v w' ∧ Post v w') : LeavesInM (Wd none) 0 P fn a.tmps (fun e w' => ∃ v, e = .returned v ∧ Post v w') a.defers .returning w := by
  rw [hf.defers]
  obtain ⟨v, h1, h2⟩ := h _ (hs.putObj (o' := .deferred none)).tail
  exact ⟨by simp, .inl ⟨D, _, rfl, run_takeDeferred hs.obj_heap, _, h1, _, rfl, h2⟩⟩
theorem leaves0c {fn : Func} {Post : Value → World → Prop} {a : Act} (hf : Fits n [] fr a) (h : ∃ v, (results fn a.tmps).run P w = .ok v w ∧ Post v w) : LeavesInM (Wd none) 0 P fn a.tmps (fun e w' => ∃ v, e = .returned v ∧ Post v w') a.defers .returning w := by
  rw [hf.defers]
  obtain ⟨v, h1, h2⟩ := h
  exact ⟨_, h1, _, rfl, h2⟩
theorem MC.retMc {fn : Func} {Post : Value → World → Prop} (hs : Sat (shelf D :: l) w) (h : ∀ w', Sat l w' → ∀ a, Fits n [mark D] fr a → ∃ v, (results fn a.tmps).run P w' = .ok v w' ∧ Post v w') : MC ⟨P, none, n, bodyPostM (Wd none) 0 P fn fun e w' => ∃ v, e = .returned v ∧ Post v w'⟩ [mark D] (.code .ret :: k) fr w := fun _ hf =>
  wpIn_ret (by rw [post_ret]; exact leaves1c hf hs fun w' hw => h w' hw _ hf)
theorem MC.retMc0 {fn : Func} {Post : Value → World → Prop} (h : ∀ a, Fits n [] fr a → ∃ v, (results fn a.tmps).run P w = .ok v w ∧ Post v w) : MC ⟨P, none, n, bodyPostM (Wd none) 0 P fn fun e w' => ∃ v, e = .returned v ∧ Post v w'⟩ [] (.code .ret :: k) fr w := fun a hf =>
  wpIn_ret (by rw [post_ret]; exact leaves0c hf (h a hf))
theorem run_results3 {fn : Func} {l : List Assn} {b1 b2 b3 s1 s2 s3 c1 c2 c3 : Nat} {t1 t2 t3 e1 e2 e3 : TypeId} {v1 v2 v3 : Value} {z1 z2 z3 : List Value} {G1 G2 G3 : List Value → List Assn} {a : Act} [TyI P t1 false 1 c1 z1] [TyI P t2 false 1 c2 z2] [TyI P t3 false 1 c3 z3] [hA1 : At l b1 [v1] e1 G1] [hA2 : At l b2 [v2] e2 G2] [hA3 : At l b3 [v3] e3 G3]
    (hf : Fits n ds fr a) (hr : fn.results = #[.cell s1 t1, .cell s2 t2, .cell s3 t3]) (hs : Sat l w) (hx1 : lk fr s1 = some (.pointer (some ⟨b1, 0, none⟩))) (hx2 : lk fr s2 = some (.pointer (some ⟨b2, 0, none⟩))) (hx3 : lk fr s3 = some (.pointer (some ⟨b3, 0, none⟩))) : (results fn a.tmps).run P w = .ok (.tuple #[v1, v2, v3]) w := by
  have h : ∀ (t : TypeId) (b c : Nat) (e : TypeId) (z : List Value) (v : Value) (G : List Value → List Assn) [TyI P t false 1 c z] [hA : At l b [v] e G], (loadVar t ⟨b, 0, none⟩).run P w = .ok v w := fun t b c e z v G _ hA => by
    have hC := At.sat (h := hA) hs
    exact run_loadVar (P := P) (t := t) (w := w) (b := b) 0 [v] rfl (fun j u hj => by rw [hC.blk_cell]; rw [Nat.zero_add]; exact hj)
  have h1 := h t1 b1 c1 e1 z1 v1 G1
  have h2 := h t2 b2 c2 e2 z2 v2 G2
  have h3 := h t3 b3 c3 e3 z3 v3 G3
  unfold results
  rw [hr]
  simp [hf.slot s1 _ hx1, hf.slot s2 _ hx2, hf.slot s3 _ hx3, Array.getD_eq_getD_getElem?, asAddr, h1, h2, h3]
theorem Sat.app_swap {A B : List Assn} (h : Sat (A ++ B) w) : Sat (B ++ A) w := by
  have h : All (at_ (envOf w) A ++ at_ (envOf w) B) (hpOf w) := by rw [at_, at_, ← List.map_append]; exact h
  obtain ⟨a1, a2, ap, l1, l2, ha, hb⟩ := All.append_iff.1 h
  have := All.append_iff.2 ⟨a2, a1, fun i => (ap i).symm, l2, l1, hb, ha⟩
  rw [at_, at_, ← List.map_append] at this
  exact this
end
end Go.Sl
