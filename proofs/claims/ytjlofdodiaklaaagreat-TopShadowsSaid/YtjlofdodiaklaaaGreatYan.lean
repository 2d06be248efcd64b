/-
  Values of interface types; noughts appended to what has no room; rows of slices with what they show | The device: what is read of it | Results in whatever cells; append in place, clear, overlaps, append of zeros where there is no room; compare | Bytes of a constant text: a row put together, and turned into its own type (the run-time marks the place behind it) | The device: what is open | Bytes of a text that is no constant
-/
import Derived.Test.YtjlofdodiaklaaaGreatYam
import Derived.Test.YtjlofdodiaklaaaGreatYaj
import Derived.Test.YtjlofdodiaklaaaGreatYal
import Derived.Test.YtjlofdodiaklaaaGreatYag
import Derived.Lib.Overlaps
import Derived.Lib.Bytealg
import Derived.Lib.BytesEntry
import Derived.Lib.ConvBytes
set_option linter.unusedVariables false
set_option linter.unusedSimpArgs false
namespace Go.Sl
open Go
section
variable {P : Program} {r : Option Nat} {fr : Fr} {d : Option Tmp} {ty : TypeId} {pos : String} {aft : Array Edge} {g : Option (Nat × Bool)} {v vx : Value} {x y : Operand} {t e xt : TypeId} {w : World} {l F : List Assn}
end

theorem RdS.takeL {F : List Assn} {size n c b : Nat} {p : Option Addr} {xs : List Value} (h : RdS F size (.slice p n c) n xs) (hb : b ≤ n) : RdS F size (.slice p b c) b (xs.take (b * size)) := by
  obtain ⟨p', c', e, hc, hl, hp⟩ := h
  injection e with e1 e2 e3
  subst e1; subst e3
  have hm : b * size ≤ n * size := Nat.mul_le_mul_right _ hb
  refine ⟨p, c, rfl, by omega, by rw [List.length_take]; omega, fun h0 => ?_⟩
  obtain ⟨q, o, rfl, hr⟩ := hp (by omega)
  refine ⟨q, o, rfl, fun w hw j u hu => hr w hw j u ?_⟩
  rw [List.getElem?_take] at hu
  split at hu
  · exact hu
  · cases hu
theorem RdS.dropL {F : List Assn} {size n c a : Nat} {p : Option Addr} {xs : List Value} (h : RdS F size (.slice p n c) n xs) (ha : a ≤ n) : RdS F size (.slice (cutAt p a c size) (n - a) (c - a)) (n - a) (xs.drop (a * size)) := by
  obtain ⟨p', c', e, hc, hl, hp⟩ := h
  injection e with e1 e2 e3
  subst e1; subst e3
  refine ⟨_, _, rfl, by omega, by rw [List.length_drop, hl, Nat.sub_mul], fun h0 => ?_⟩
  have hna : 0 < n - a := by
    rcases Nat.eq_zero_or_pos (n - a) with h | h
    · rw [h, Nat.zero_mul] at h0; omega
    · exact h
  have hsz : 0 < size := by
    rcases Nat.eq_zero_or_pos size with h | h
    · rw [h, Nat.mul_zero] at h0; omega
    · exact h
  obtain ⟨q, o, rfl, hr⟩ := hp (Nat.mul_pos (by omega) hsz)
  refine ⟨q, o + a * size, ?_, fun w hw j u hu => ?_⟩
  · unfold cutAt
    rw [if_neg (by omega)]
    simp [Addr.add]
  · rw [List.getElem?_drop] at hu
    have := hr w hw _ u hu
    rw [← Nat.add_assoc] at this
    exact this
theorem RdS.cap {F : List Assn} {size n c c' : Nat} {p : Option Addr} {xs : List Value} (h : RdS F size (.slice p n c) n xs) (hc : n ≤ c') : RdS F size (.slice p n c') n xs := by
  obtain ⟨p', c2, e, _, hl, hp⟩ := h
  injection e with e1 e2 e3
  subst e1
  exact ⟨p, c', rfl, hc, hl, hp⟩
theorem RdS.sub {F : List Assn} {n c a b : Nat} {p : Option Addr} {l : List UInt8} (h : RdS F 1 (.slice p n c) n (bytesV l)) (hab : a ≤ b) (hb : b ≤ n) (c' : Nat) (hc : b - a ≤ c') : RdS F 1 (.slice (cutAt p a c 1) (b - a) c') (b - a) (bytesV ((l.take b).drop a)) := by
  have h1 := (h.takeL (b := b) hb)
  have h2 := (h1.dropL (a := a) hab).cap hc
  rw [Nat.mul_one, Nat.mul_one] at h2
  have e : ((bytesV l).take b).drop a = bytesV ((l.take b).drop a) := by simp [bytesV, List.map_take, List.map_drop]
  rw [e] at h2
  exact h2
theorem RdS.subHi {F : List Assn} {n c b : Nat} {p : Option Addr} {l : List UInt8} (h : RdS F 1 (.slice p n c) n (bytesV l)) (hb : b ≤ n) : RdS F 1 (.slice p b c) b (bytesV (l.take b)) := by
  have h1 := (h.takeL (b := b) hb)
  rw [Nat.mul_one] at h1
  have e : (bytesV l).take b = bytesV (l.take b) := by simp [bytesV, List.map_take]
  rw [e] at h1
  exact h1
theorem RdS.subLo {F : List Assn} {n c a : Nat} {p : Option Addr} {l : List UInt8} (h : RdS F 1 (.slice p n c) n (bytesV l)) (ha : a ≤ n) : RdS F 1 (.slice (cutAt p a c 1) (n - a) (c - a)) (n - a) (bytesV (l.drop a)) := by
  have h1 := (h.dropL (a := a) ha)
  rw [Nat.mul_one] at h1
  have e : (bytesV l).drop a = bytesV (l.drop a) := by simp [bytesV, List.map_drop]
  rw [e] at h1
  exact h1

def bods (t : TypeId) (l : List (Value × List UInt8)) : Assn := star (l.map fun x => sl x.1 t 1 x.2.length (bytesV x.2))
section
variable {F : List Assn} {w : World} {t : TypeId} {l m : List (Value × List UInt8)}
theorem bods_app (h : Sat (bods t l :: bods t m :: F) w) : Sat (bods t (l ++ m) :: F) w := by
  have h1 := h.unstar
  have h2 : Sat (bods t m :: (l.map (fun x => sl x.1 t 1 x.2.length (bytesV x.2)) ++ F)) w := by
    have h3 := h1.pull (l.map (fun x => sl x.1 t 1 x.2.length (bytesV x.2))).length (A := bods t m) (by simp)
    have e : (l.map (fun x => sl x.1 t 1 x.2.length (bytesV x.2)) ++ bods t m :: F).eraseIdx (l.map (fun x => sl x.1 t 1 x.2.length (bytesV x.2))).length = l.map (fun x => sl x.1 t 1 x.2.length (bytesV x.2)) ++ F := by
      rw [List.eraseIdx_append_of_length_le (Nat.le_refl _)]; simp
    rw [e] at h3; exact h3
  have h4 : Sat (bods t l :: bods t m :: F) w := h
  -- the parts of l, then those of m
  have h5 : Sat (l.map (fun x => sl x.1 t 1 x.2.length (bytesV x.2)) ++ (m.map (fun x => sl x.1 t 1 x.2.length (bytesV x.2)) ++ F)) w := by
    have g : All (at_ (envOf w) (l.map (fun x => sl x.1 t 1 x.2.length (bytesV x.2))) ++ at_ (envOf w) (bods t m :: F)) (hpOf w) := by
      rw [at_, at_, ← List.map_append]; exact h1
    obtain ⟨a1, a2, ap, l1, l2, ha, hb⟩ := All.append_iff.1 g
    have hb2 : All (at_ (envOf w) (m.map (fun x => sl x.1 t 1 x.2.length (bytesV x.2))) ++ at_ (envOf w) F) a2 := All.append_iff.2 hb
    have := All.append_iff.2 ⟨a1, a2, ap, l1, l2, ha, hb2⟩
    rw [at_, at_, at_, ← List.map_append, ← List.map_append] at this
    exact this
  rw [← List.append_assoc, ← List.map_append] at h5
  exact Sat.restar h5
theorem bods_nil (h : Sat F w) : Sat (bods t [] :: F) w := Sat.restar (l := []) h
theorem bods_one {v : Value} {b : List UInt8} (h : Sat (sl v t 1 b.length (bytesV b) :: F) w) : Sat (bods t [(v, b)] :: F) w := Sat.restar (l := [_]) h
theorem bods_snoc {v : Value} {b : List UInt8} (h : Sat (sl v t 1 b.length (bytesV b) :: bods t l :: F) w) : Sat (bods t (l ++ [(v, b)]) :: F) w := bods_app (bods_one h).swap
theorem bods_rd (h : Sat (bods t l :: F) w) {x : Value × List UInt8} (hx : x ∈ l) : RdS (bods t l :: F) 1 x.1 x.2.length (bytesV x.2) := by
  obtain ⟨i, hi, rfl⟩ := List.mem_iff_getElem.1 hx
  have hp : ∀ w, Sat (bods t l :: F) w → ∃ rest, Sat (sl l[i].1 t 1 l[i].2.length (bytesV l[i].2) :: rest) w := fun w h => ⟨_, h.unstar.pull i (by rw [List.getElem?_append_left (by simpa using hi)]; simp [hi])⟩
  obtain ⟨rest, h1⟩ := hp w h
  obtain ⟨p, c, he, hc, hl, hr⟩ := RdS.of_sl h1
  refine ⟨p, c, he, hc, hl, fun h0 => ?_⟩
  obtain ⟨b, o, hpb, _⟩ := hr h0
  refine ⟨b, o, hpb, fun w' hw' j u hu => ?_⟩
  obtain ⟨rest', h2⟩ := hp w' hw'
  obtain ⟨p2, c2, he2, _, _, hr2⟩ := RdS.of_sl h2
  rw [he] at he2
  injection he2 with e1 e2 e3
  obtain ⟨b2, o2, hpb2, hrd⟩ := hr2 h0
  rw [← e1, hpb] at hpb2
  injection hpb2 with e4
  injection e4 with e5 e6
  subst e5; subst e6
  exact hrd w' h2 j u hu
end
end Go.Sl

namespace Go.Proofs.YtjlofdodiaklaaaGreat
open Go Go.Sl
attribute [local irreducible] LooksAt

def Dev.back (D : Dev) (i : Nat) : Nat × List UInt8 := D.O.getD (D.O.length - 1 - i) (0, [])
theorem Dev.back_eq {D : Dev} {i : Nat} (h : i < D.O.length) : D.O[D.O.length - 1 - i]'(by omega) = D.back i := by
  simp [Dev.back, List.getD_eq_getElem?_getD, List.getElem?_eq_getElem (show D.O.length - 1 - i < D.O.length by omega)]
theorem int_eq {a b : Int} (h : a = b) : some (Value.int .i64 a) = some (Value.int .i64 b) := by rw [h]
theorem newest1_spec {p q : Nat} {D : Dev} (hD : D.ok) (hO : D.O.length ≤ 100000) {J : Nat → World → Prop} {Jx : World → Prop} (hJ : ∀ i w, i ≤ D.O.length → J i w → ∃ F, Sat (dev p D :: blk q [ptr p] 24 :: F) w) :
    Iter Tryz.prog 82 [ptr q] J Jx (fun i => .agg (opB (D.back i)).toArray) D.O.length := by
  intro L w hround h0
  refine Ret.enter [(true, .func (.yield L) #[] #[]), (true, ptr q)] _ Tryz.func82 rfl Tryz.ntmps82 rfl ?_
  obtain ⟨F, hs⟩ := hJ 0 w (by omega) h0
  obtain ⟨vs, vo, hs⟩ := dev_open hs
  obtain ⟨_, qo, co, rfl, hco⟩ := (hs.pull 2 rfl).sl_len
  repeat first | refine zg tab rfl rfl ?_ | refine zl (za hs rfl) ?_
  refine MC.loop (σ := Nat) (fun i => [(0, true, .func (.yield L) #[] #[]), (1, true, ptr q), (3, true, int ((D.O.length : Int) - 1 - (i : Nat)))])
    (fun i w => i ≤ D.O.length ∧ J i w) (fun i => D.O.length - i) 0 ?_ ⟨by omega, h0⟩ ?_
  · exact ⟨rfl, rfl, int_eq (by omega), trivial⟩
  rintro i w ⟨hi, hj⟩
  obtain ⟨F, hs⟩ := hJ i w hi hj
  obtain ⟨vs, vo, hs⟩ := dev_open hs
  obtain ⟨_, qo, co, rfl, hco⟩ := (hs.pull 2 rfl).sl_len
  repeat first | refine zg tab rfl rfl ?_ | refine zl (za hs rfl) ?_
  refine MC.cond rfl (fun hlt => ?_) (fun hge => ?_)
  · have hlt : i < D.O.length := by omega
    have hr0 : RdS (sl (.slice qo D.O.length co) 114 257 D.O.length (opV D.O) :: blk q [ptr p] 24 :: F) 257 (.slice qo D.O.length co) D.O.length (opV D.O) := RdS.of_sl (hs.tail.tail)
    obtain ⟨q', c', e1, h1, h2, h3⟩ := id hr0
    injection e1 with e1
    subst e1
    obtain ⟨bo, oo, rfl, hr⟩ := h3 (by omega)
    have hx1 : (D.back i).2.length = 256 := by rw [← Dev.back_eq hlt]; exact (hD.op _ (List.getElem_mem _)).1
    have hi2 : ((D.O.length : Int) - 1 - (i : Nat)).toNat = D.O.length - 1 - i := by omega
    repeat first | refine zg tab rfl rfl ?_ | refine zl (za hs rfl) ?_
    refine MC.la true (la_loadV_rd hr hs (j := ((D.O.length : Int) - 1 - (i : Nat)).toNat * 257) rfl (vs := opB (D.back i)) (by rw [hi2, ← Dev.back_eq hlt]; exact rows_get (fun x hx => opB_length (hD.op x hx).1) _) (opB_length hx1) rfl) rfl ?_
    refine MC.does true (does_yield rfl rfl (hround i w hlt hj)) rfl ?_
    rintro _ w (⟨rfl, hj⟩ | ⟨rfl, hj⟩)
    · repeat first | refine zg tab rfl rfl ?_ | refine zl (za hs rfl) ?_
      exact MC.again (i + 1) ⟨rfl, rfl, int_eq (by omega), trivial⟩ ⟨by omega, hj⟩ (by omega)
    · repeat first | refine zg tab rfl rfl ?_ | refine zl (za hs rfl) ?_
      refine MC.ret rfl ?_
      exact .inr hj
  · have hi' : i = D.O.length := by omega
    subst hi'
    repeat first | refine zg tab rfl rfl ?_ | refine zl (za hs rfl) ?_
    refine MC.end_ rfl ?_
    exact .inl hj
theorem newest_spec {F : List Assn} {p : Nat} {w : World} (hs : Sat F w) :
    Ret Tryz.prog 54 [ptr p] w fun v w' => ∃ q, v = .func (.func 82) #[] #[ptr q] ∧ Sat (blk q [ptr p] 24 :: F) w' := by
  refine Ret.enter [(true, ptr p)] _ Tryz.func54 rfl Tryz.ntmps54 rfl ?_
  repeat first | refine zg tab rfl rfl ?_ | refine zl (za hs rfl) ?_
  refine MC.does true (does_box hs rfl rfl) rfl ?_; rintro _ w ⟨_, rfl, hs⟩
  repeat first | refine zg tab rfl rfl ?_ | refine zl (za hs rfl) ?_
  refine MC.pure (f := true) (po_makeFunc (vf := []) (vc := [ptr _]) rfl rfl) rfl ?_
  repeat first | refine zg tab rfl rfl ?_ | refine zl (za hs rfl) ?_
  refine MC.ret rfl ?_
  exact ⟨_, rfl, hs⟩
theorem dropPre {pre l : List Assn} {w : World} (h : Sat (pre ++ l) w) : Sat l w := by
  induction pre with
  | nil => exact h
  | cons a pre ih => exact ih h.tail
def Dev.get (D : Dev) (k : Nat) : List UInt8 := (laid D.S D.O).getD k []
def Dev.red (D : Dev) : Dev := { D with reads := IntKind.i64.wrap (D.reads + 1) }
theorem Dev.red_ok {D : Dev} (hD : D.ok) : D.red.ok := { hD with }
theorem laid_append (S : List (List UInt8)) (a b : List (Nat × List UInt8)) : laid S (a ++ b) = laid (laid S a) b := List.foldl_append
theorem laid_other {k : Nat} (O : List (Nat × List UInt8)) : ∀ (S : List (List UInt8)), (∀ x ∈ O, x.1 ≠ k) → (laid S O)[k]? = S[k]? := by
  induction O with
  | nil => intro S _; rfl
  | cons x O ih =>
    intro S h
    refine (ih _ fun y hy => h y (List.mem_cons_of_mem _ hy)).trans ?_
    rw [List.getElem?_set_ne (h x List.mem_cons_self)]
theorem Dev.back_later {D : Dev} {i k : Nat} (h : ∀ j, j < i → (D.back j).1 ≠ k) (hi : i ≤ D.O.length) : ∀ x ∈ D.O.drop (D.O.length - i), x.1 ≠ k := by
  intro x hx
  obtain ⟨m, hm, rfl⟩ := List.getElem_of_mem hx
  rw [List.length_drop] at hm
  rw [List.getElem_drop]
  have := h (i - 1 - m) (by omega)
  rw [← Dev.back_eq (by omega)] at this
  have e : D.O.length - 1 - (i - 1 - m) = D.O.length - i + m := by omega
  simpa [e] using this
theorem Dev.get_none {D : Dev} {k : Nat} (h : ∀ j, j < D.O.length → (D.back j).1 ≠ k) (hk : k < D.S.length) : D.get k = D.S[k] := by
  have := laid_other D.O D.S (k := k) (by simpa using Dev.back_later h (Nat.le_refl _))
  simp [Dev.get, List.getD_eq_getElem?_getD, this, hk]
theorem Dev.get_back {D : Dev} {i k : Nat} (h : ∀ j, j < i → (D.back j).1 ≠ k) (hi : i < D.O.length) (e : (D.back i).1 = k) (hk : k < D.S.length) : D.get k = (D.back i).2 := by
  have h1 := Dev.back_later h (by omega)
  have e1 : D.O = D.O.take (D.O.length - 1 - i) ++ (D.back i :: D.O.drop (D.O.length - i)) := by
    conv => lhs; rw [← List.take_append_drop (D.O.length - 1 - i) D.O]
    rw [List.drop_eq_getElem_cons (by omega), Dev.back_eq hi, show D.O.length - 1 - i + 1 = D.O.length - i by omega]
  have e2 : laid D.S D.O = laid ((laid D.S (D.O.take (D.O.length - 1 - i))).set k (D.back i).2) (D.O.drop (D.O.length - i)) := by
    conv => lhs; rw [e1]
    rw [laid_append, ← e]; rfl
  rw [Dev.get, e2, List.getD_eq_getElem?_getD, laid_other _ _ h1, List.getElem?_set_self (by rw [laid_length]; exact hk)]
  rfl
theorem get_length {D : Dev} (hD : D.ok) {k : Nat} (hk : k < D.S.length) : (D.get k).length = 256 := by
  have h := laid_sec D.O D.S hD.sec fun x hx => (hD.op x hx).1
  have hl : k < (laid D.S D.O).length := by rw [laid_length]; exact hk
  rw [Dev.get, List.getD_eq_getElem?_getD, List.getElem?_eq_getElem hl]
  exact h _ (List.getElem_mem hl)
theorem read_spec {F : List Assn} {p : Nat} {D : Dev} {w : World} {k : Int} (hs : Sat (dev p D :: F) w) (hD : D.ok) (hO : D.O.length ≤ 100000) :
    Ret Tryz.prog 26 [ptr p, int k] w fun v w' => if D.wrong k 256 = 0 then ∃ vb, v = .tuple #[vb, int 0] ∧ Sat (sl vb 5 1 256 (bytesV (D.get k.toNat)) :: dev p D.red :: F) w' else v = .tuple #[.slice none 0 0, int (D.wrong k 256)] ∧ Sat (dev p D :: F) w' := by
  refine Ret.enterM [(true, ptr p), (true, int k)] _ Tryz.func26 rfl Tryz.ntmps26 rfl ?_
  repeat first | refine zg tab rfl rfl ?_ | refine zl (za hs rfl) ?_
  refine MC.does true (does_box hs rfl rfl) rfl ?_; rintro _ w ⟨b3, rfl, hs⟩
  have hready := ready_spec (hs.tail) hD k 256
  repeat first | refine zg tab rfl rfl ?_ | refine zl (za hs rfl) ?_
  refine MC.does true (does_call rfl (hready)) rfl ?_
  rintro _ w' ⟨rfl, rfl⟩
  repeat first | refine zg tab rfl rfl ?_ | refine zl (za hs rfl) ?_
  refine MC.cond rfl (fun h => ?_) (fun h => ?_)
  · repeat first | refine zg tab rfl rfl ?_ | refine zl (za hs rfl) ?_
    refine MC.retM0 rfl ?_
    rw [if_neg h]
    exact ⟨rfl, hs.tail⟩
  have h := Decidable.not_not.1 h
  simp only [h, if_true]
  obtain ⟨hk0, hk1, _, hf⟩ := Dev.wrong_zero.1 h
  obtain ⟨vs, vo, hs⟩ := dev_open hs.swap
  obtain ⟨hsl, qs, cs, rfl, hcs⟩ := (hs.pull 1 rfl).sl_len
  refine zg tab rfl rfl ?_
  refine MC.la false (la_load1 hs rfl (by rfl)) rfl ?_
  refine MC.pure (f := true) (po_bin rfl rfl (br_add rfl)) rfl ?_
  repeat first | refine zg tab rfl rfl ?_ | refine zl (za hs rfl) ?_
  refine MC.does true (does_store1 hs rfl rfl rfl (by first | decide | (simp; done) | (simp; omega))) rfl ?_; intro _ w hs
  repeat first | refine zg tab rfl rfl ?_ | refine zl (za hs rfl) ?_
  refine MC.draw hs [0,1,2,3,4,5,6,7,8] (by rfl) ?_; intro w hs
  have hr0 := RdS.of_sl hs.tail
  obtain ⟨q', c', e1, h1, h2, h3⟩ := id hr0
  injection e1 with e1
  subst e1
  obtain ⟨bo, oo, rfl, hr⟩ := h3 (by omega)
  repeat first | refine zg tab rfl rfl ?_ | refine zm (za hs rfl) ?_
  have hk : k.toNat < D.S.length := by omega
  have hsk : (D.S[k.toNat]).length = 256 := hD.sec _ (List.getElem_mem hk)
  refine MC.laD true (la_loadV_rd hr hs (j := k.toNat * 256) rfl (vs := bytesV D.S[k.toNat]) (rows_get (fun x hx => by simp [hD.sec x hx]) hk) (by simp [hsk]) rfl) rfl ?_
  refine MC.doesK true (does_alloc hs) rfl rfl rfl ?_
  rintro _ w ⟨b7, rfl, hs⟩
  refine ⟨⟨Suf.sat hs, At.sat hs, At.sat hs, trivial⟩, ?_⟩
  refine MC.doesD true (does_store (vs := bytesV D.S[k.toNat]) hs rfl rfl rfl (by simp [hsk]) (bytesV_one _) (by simp)) rfl rfl rfl rfl ?_
  intro _ w hs
  rw [splice_all (by simp [hsk])] at hs
  have hs := hs.pickF 5 [1, 2, 3, 0, 4] rfl rfl
  have hs : Sat (dev p D.red :: blk b7 (bytesV D.S[k.toNat]) 112 :: blk b3 [int k] 3 :: F) w := dev_shut (vs := .slice (some ⟨bo, oo, none⟩) D.S.length cs) (vo := vo) hs
  repeat first | refine zg tab rfl rfl ?_ | refine zl (za hs rfl) ?_
  refine MC.does true (does_call rfl (newest_spec hs)) rfl ?_
  rintro _ w ⟨q, rfl, hs⟩
  repeat first | refine zg tab rfl rfl ?_ | refine zl (za hs rfl) ?_
  have hg : (D.get k.toNat).length = 256 := get_length hD hk
  refine MC.rangeFunc rfl (lb := [ptr q]) (fun i => fact (∀ j, j < i → (D.back j).1 ≠ k.toNat) :: dev p D.red :: blk q [ptr p] 24 :: blk b7 (bytesV D.S[k.toNat]) 112 :: blk b3 [int k] 3 :: F)
    D.O.length (fun i => .agg (opB (D.back i)).toArray) [.exit 0] (fun _ => dev p D.red :: blk q [ptr p] 24 :: blk b7 (bytesV (D.get k.toNat)) 112 :: blk b3 [int k] 3 :: F)
    rfl rfl (Sat.fact_iff.2 ⟨fun j hj => absurd hj (by omega), hs.swap⟩) ?_ ?_ ?_ ?_
  · intro pre Jx
    exact newest1_spec (D := D.red) (Dev.red_ok hD) hO fun i w hi h => ⟨_, (Sat.fact_iff.1 (dropPre h)).2⟩
  · intro L E i rec w hi hrec hs
    have hx1 : (D.back i).2.length = 256 := by rw [← Dev.back_eq hi]; exact (hD.op _ (List.getElem_mem _)).1
    repeat first | refine zg tab rfl rfl ?_ | refine zl (za hs rfl) ?_
    refine MC.does true (does_alloc hs) rfl ?_; rintro _ w ⟨_, rfl, hs⟩
    refine MC.does true (does_store (vs := opB (D.back i)) hs rfl rfl rfl (opB_length hx1) (opB_one _) (by simp)) rfl ?_
    intro _ w hs
    rw [splice_all (by simp [opB_length hx1])] at hs
    repeat first | refine zg tab rfl rfl ?_ | refine zl (za hs rfl) ?_
    refine MC.begin hrec hs.swap fun w hs => ?_
    repeat first | refine zg tab rfl rfl ?_ | refine zl (za hs rfl) ?_
    refine MC.cond rfl (fun he => ?_) (fun he => ?_)
    · have he' : (D.back i).1 = k.toNat := by omega
      repeat first | refine zg tab rfl rfl ?_ | refine zl (za hs rfl) ?_
      refine MC.la true (la_loadV hs rfl (vs := bytesV (D.back i).2) (by exact List.take_of_length_le (by simp [opB_length hx1])) (by simp [hx1]) rfl) rfl ?_
      refine MC.does true (does_store (vs := bytesV (D.back i).2) hs rfl rfl rfl (by simp [hx1]) (bytesV_one _) (by simp [hsk])) rfl ?_
      intro _ w hs
      rw [splice_all (by simp [hx1, hsk])] at hs
      refine zg tab rfl rfl ?_
      have hs := hs.pickF 4 [0, 2, 3] rfl rfl
      obtain ⟨hf, hs⟩ := Sat.fact_iff.1 (hs.pull 2 rfl)
      refine MC.stop rfl (List.mem_singleton.2 rfl) ?_
      rw [Dev.get_back hf hi he' hk]
      exact hs
    · repeat first | refine zg tab rfl rfl ?_ | refine zl (za hs rfl) ?_
      have hs := hs.pickF 4 [0, 2, 3] rfl rfl
      obtain ⟨hf, hs⟩ := Sat.fact_iff.1 (hs.pull 2 rfl)
      have hf2 : ∀ j, j < i + 1 → (D.back j).1 ≠ k.toNat := fun j hj => by
        rcases Nat.lt_or_ge j i with h' | h'
        · exact hf j h'
        · obtain rfl : j = i := by omega
          omega
      have hs := (Sat.fact_iff.2 ⟨hf2, hs⟩).pickF 3 [1, 2, 0] rfl rfl
      exact MC.more hrec hs
  · intro E w hs
    obtain ⟨hf, hs⟩ := Sat.fact_iff.1 (hs.pull 1 rfl)
    rw [← Dev.get_none hf hk] at hs
    have hs := hs.pickF 5 [0, 3, 1, 4] rfl rfl
    (try dsimp only [List.eraseIdx, List.cons_append, List.nil_append, List.drop_succ_cons, List.drop_zero, List.append_eq] at hs)
    repeat first | refine zg tab rfl rfl ?_ | refine zl (za hs rfl) ?_
    refine MC.does true (does_buildSlice0 hs) rfl ?_
    rintro _ w ⟨b9, rfl, hs⟩
    have hs := Sat.sl_mk (xs := []) (spare := []) (n := 0) (c := 0) (size := 1) hs (Nat.le_refl _) rfl rfl
    refine MC.pure (f := true) (po_sliceArr (n := 256) rfl) rfl ?_
    refine MC.does true (does_append hs rfl rfl (src_at (by simp [hg]) (bytesV_one _)) (by omega) (by omega)) rfl ?_
    intro va w hs
    repeat first | refine zg tab rfl rfl ?_ | refine zl (za hs rfl) ?_
    have hs := hs.pickF 5 [1, 0, 3] rfl rfl
    exact MC.retM rfl hs fun w' hs => ⟨va, rfl, hs⟩
  · intro c E w hc hs
    rw [List.mem_singleton.1 hc]
    refine zg tab rfl rfl ?_
    have hs := hs.pickF 5 [0, 3, 1, 4] rfl rfl
    (try dsimp only [List.eraseIdx, List.cons_append, List.nil_append, List.drop_succ_cons, List.drop_zero, List.append_eq] at hs)
    repeat first | refine zg tab rfl rfl ?_ | refine zl (za hs rfl) ?_
    refine MC.does true (does_buildSlice0 hs) rfl ?_
    rintro _ w ⟨b9, rfl, hs⟩
    have hs := Sat.sl_mk (xs := []) (spare := []) (n := 0) (c := 0) (size := 1) hs (Nat.le_refl _) rfl rfl
    refine MC.pure (f := true) (po_sliceArr (n := 256) rfl) rfl ?_
    refine MC.does true (does_append hs rfl rfl (src_at (by simp [hg]) (bytesV_one _)) (by omega) (by omega)) rfl ?_
    intro va w hs
    repeat first | refine zg tab rfl rfl ?_ | refine zl (za hs rfl) ?_
    have hs := hs.pickF 5 [1, 0, 3] rfl rfl
    exact MC.retM rfl hs fun w' hs => ⟨va, rfl, hs⟩
end Go.Proofs.YtjlofdodiaklaaaGreat

namespace Go.Sl
open Go

def ResOk (P : Program) (fr : Fr) (w : World) : List ResultVar → List Value → Prop
  | [], [] => True
  | .tmp t :: r, v :: vs => lk fr t = some v ∧ ResOk P fr w r vs
  | .cell a T :: r, v :: vs => (∃ ad, lk fr a = some (.pointer (some ad)) ∧ (loadVar T ad).run P w = .ok v w) ∧ ResOk P fr w r vs
  | _, _ => False
theorem run_resultsC {P : Program} {fn : Func} {fr : Fr} {n : Nat} {ds : List Deferred} {a : Act} {vs : List Value} {w : World} (hf : Fits n ds fr a) (hr : ResOk P fr w fn.results.toList vs) : (results fn a.tmps).run P w = .ok (tup vs) w := by
  have key : ∀ (f : ResultVar → Sem Value), (∀ t, f (.tmp t) = pure (a.tmps.getD t undef)) → (∀ s T, f (.cell s T) = (do loadVar T (← asAddr (a.tmps.getD s undef)))) → ∀ (l : List ResultVar) (vs : List Value), ResOk P fr w l vs → ((l.mapM f : Sem (List Value))).run P w = .ok vs w := by
    intro f hfm hfc l
    induction l with
    | nil => intro vs h; cases vs with
      | nil => simp
      | cons _ _ => exact h.elim
    | cons x l ih =>
      intro vs h
      cases vs with
      | nil => cases x <;> exact h.elim
      | cons v vs =>
        cases x with
        | tmp t =>
          obtain ⟨h1, h2⟩ := h
          have := ih vs h2
          simp only [List.mapM_cons, hfm]
          rw [Sem.run_bind]
          simp only [Sem.run_pure, Result.andThen_ok, Sem.run_bind]
          rw [this]
          simp [hf.slot t v h1, Array.getD_eq_getD_getElem?]
        | cell s T =>
          obtain ⟨⟨ad, h1, h3⟩, h2⟩ := h
          have := ih vs h2
          simp only [List.mapM_cons, hfc]
          simp [hf.slot s _ h1, Array.getD_eq_getD_getElem?, asAddr, h3, this]
  unfold results
  rw [Array.mapM_eq_mapM_toList]
  simp only [Sem.run_bind]
  simp only [map_eq_pure_bind, Sem.run_bind]
  rw [key _ (fun t => rfl) (fun s T => rfl) _ _ hr]
  simp only [Result.andThen_ok, Sem.run_pure]
  match vs with
  | [] => rfl
  | [v] => rfl
  | v :: u :: vs => simp [tup]
theorem load_cell {P : Program} {l : List Assn} {b : Nat} {cs : List Value} {t e : TypeId} {agg : Bool} {size bytes : Nat} {zero : List Value} {G : List Value → List Assn} {w : World} [hI : TyI P t agg size bytes zero] [hA : At l b cs e G] (hs : Sat l w) (hl : cs.length = size) : (loadVar t ⟨b, 0, none⟩).run P w = .ok (valOf agg cs) w := by
  have hC := At.sat (h := hA) hs
  exact run_loadVar (P := P) (t := t) (w := w) (b := b) 0 cs hl (fun j u hj => by rw [hC.blk_cell]; rw [Nat.zero_add]; exact hj)
theorem load_cellA {P : Program} {l : List Assn} {b : Nat} {cs : List Value} {t e : TypeId} {size bytes : Nat} {zero : List Value} {G : List Value → List Assn} {w : World} [hI : TyI P t true size bytes zero] [hA : At l b cs e G] (hs : Sat l w) (hl : cs.length = size) : (loadVar t ⟨b, 0, none⟩).run P w = .ok (.agg cs.toArray) w := by
  have := load_cell (P := P) (t := t) (agg := true) (hA := hA) hs hl
  exact this
section
variable {P : Program} {n : Nat} {ds : List Deferred} {fr : Fr} {w : World} {fn : Func} {Post : Value → World → Prop} {k : List It}
theorem MC.retR {vs : List Value} (hr : ResOk P fr w fn.results.toList vs) (h : Post (tup vs) w) : MC ⟨P, none, n, bodyPost P fn fun e w' => ∃ v, e = .returned v ∧ Post v w'⟩ [] (.code .ret :: k) fr w := fun _ hf =>
  wpIn_ret (by rw [post_ret]; exact ⟨hf.defers, _, run_resultsC hf hr, _, rfl, h⟩)
end
section
variable {P : Program} {r : Option Nat} {fr : Fr} {d : Option Tmp} {ty : TypeId} {pos : String} {aft : Array Edge} {g : Option (Nat × Bool)} {v u z vx vy : Value} {x y c i : Operand} {t s e : TypeId} {w : World} {l F : List Assn} {b o : Nat} {cs : List Value} {G : List Value → List Assn}
theorem does_appendIn {agg : Bool} {size bytes : Nat} {zero : List Value} {e' e2 : TypeId} [hT : TyU P t (.slice e)] [hI : TyI P e agg size bytes zero] [hA : At l b cs e' G] {tx : TypeId} [hX : TyU P tx (.slice e2)] {n c m : Nat} {news : List Value} (hs : Sat l w) (hx : ev fr x = some (.slice (some ⟨b, o, none⟩) n c)) (hy : ev fr y = some u) (hsrc : Src2 P size u m news l) (hroom : n + m ≤ c) (hlen : o + n * size + m * size ≤ cs.length) :
    Does P r ⟨d, .call { callee := .builtin .append, args := #[x, y], argTypes := #[t, tx] }, ty, pos, aft, g⟩ fr w (fun v' w' => v' = .slice (some ⟨b, o, none⟩) (n + m) c ∧ Sat (G (splice cs (o + n * size) news)) w') := by
  obtain ⟨k1, k2, k3, k4⟩ := hsrc
  obtain ⟨i, hi, h2, h3, h4, h5, h6, h7⟩ := hI.info
  refine does_value fun _ ds a hf => ?_
  obtain ⟨j, h1, h2'⟩ := hA.out
  obtain ⟨w', hr, hS⟩ := run_storeCells (P := P) b (o + n * size) news 0 cs w (hs.pull j h1) (by rw [k1]; omega) k2
  have hfc := k4 w hs m (Nat.le_refl _)
  rw [← k1, List.take_length, ← h2] at hfc
  refine ⟨.slice (some ⟨b, o, none⟩) (n + m) c, w', ?_, rfl, ?_⟩
  · simp [execOp, resolve, invoke, builtin, hf.ev hx, hf.ev hy, Builtin.append_, run_underlying hT.h, run_underlying hX.h, sizeOf, typeInfo, hi, k3, hroom, hfc, h2, Addr.add_lit, hr]
    rw [h2] at hfc
    simp [hfc, hr]
  · exact At.upd (h := hA) hs hS
theorem does_copyM {agg : Bool} {size bytes : Nat} {zero : List Value} {e' : TypeId} [hT : TyU P t (.slice e)] [hI : TyI P e agg size bytes zero] [hA : At l b cs e' G] {tx : TypeId} {n c m c2 b2 o2 : Nat} {news : List Value} (hs : Sat l w) (hx : ev fr x = some (.slice (some ⟨b, o, none⟩) n c)) (hy : ev fr y = some (.slice (some ⟨b2, o2, none⟩) m c2))
    (hrd : ∀ (j : Nat) (u : Value), news[j]? = some u → w.cell? ⟨b2, o2 + j, none⟩ = some u) (hnl : news.length = min m n * size) (h1 : ∀ v ∈ news, v.oneCell' = true) (hlen : o + min m n * size ≤ cs.length) :
    Does P r ⟨d, .call { callee := .builtin .copy, args := #[x, y], argTypes := #[t, tx] }, ty, pos, aft, g⟩ fr w (fun v' w' => v' = .int .i64 ((min m n : Nat) : Int) ∧ Sat (G (splice cs o news)) w') := by
  refine does_value fun _ ds a hf => ?_
  obtain ⟨i, g1, g2⟩ := hA.out
  obtain ⟨w', hr, hS⟩ := run_storeCells (P := P) b o news 0 cs w (hs.pull i g1) (by omega) h1
  have hfc : (Builtin.firstCells size (min m n) (.slice (some ⟨b2, o2, none⟩) m c2)).run P w = .ok news.toArray w :=
    run_firstCells_some w size (min m n) ⟨b2, o2, none⟩ m c2 news hnl fun j u hj => by rw [Addr.add_lit]; exact hrd j u hj
  refine ⟨.int .i64 ((min m n : Nat) : Int), w', ?_, rfl, ?_⟩
  · simp [execOp, resolve, invoke, builtin, hf.ev hx, hf.ev hy, Builtin.copy_, TyU.run (P := P) (t := t) w, Builtin.lenOf, TyI.run_size (P := P) (t := e) w, hfc, hr, goInt]
  · exact At.upd (h := hA) hs hS
theorem does_clear {bytes : Nat} {z0 : Value} {e' : TypeId} {ts : Array TypeId} [hT : TyU P t (.slice e)] [hI : TyI P e false 1 bytes [z0]] [hA : At l b cs e' G] {k c : Nat} (hs : Sat l w) (hx : ev fr x = some (.slice (some ⟨b, o, none⟩) k c)) (hlen : o + k ≤ cs.length) (hts : ts[0]? = some t) :
    Does P r ⟨d, .call { callee := .builtin .clear, args := #[x], argTypes := ts }, ty, pos, aft, g⟩ fr w (fun _ w' => ∃ zs, zs.length = k ∧ Sat (G (splice cs o zs)) w') := by
  obtain ⟨i, hi, h2, h3, h4, h5, h6, h7⟩ := hI.info
  have hzA : ∀ w' : World, (zeroValue e).run P w' = .ok z0 w' := fun w' => TyI.run_zero (P := P) (t := e) w'
  have hz1 : z0.oneCell' = true := by simpa using h7
  rcases Nat.eq_zero_or_pos k with rfl | hk
  · refine does_value fun _ ds a hf => ⟨.tuple #[], w, ?_, [], rfl, ?_⟩
    · simp [execOp, resolve, invoke, builtin, hf.ev hx, Builtin.clear_, hts, run_underlying hT.h]
    · exact At.upd (h := hA) hs fun rest h => h
  · have hzc : (Builtin.zeroCells z0.cells k).toList = List.replicate k z0 := by
      have := rep_zeroCells [z0] k (by simp)
      rw [oneCell'_cells hz1, this, rep_one]
    obtain ⟨j, h1, h2'⟩ := hA.out
    obtain ⟨w', hr, hS⟩ := run_storeCells (P := P) b o (List.replicate k z0) 0 cs w (hs.pull j h1) (by simp; omega) (fun v hv => by rw [List.eq_of_mem_replicate hv]; exact hz1)
    refine does_value fun _ ds a hf => ⟨.tuple #[], w', ?_, List.replicate k z0, by simp, ?_⟩
    · obtain ⟨k, rfl⟩ : ∃ k', k = k' + 1 := ⟨k - 1, by omega⟩
      simp [execOp, resolve, invoke, builtin, hf.ev hx, Builtin.clear_, hts, run_underlying hT.h, hzA, hzc, hr]
    · exact At.upd (h := hA) hs hS
theorem Rd.of_obj {b : Nat} {cs : List Value} {e : TypeId} {F : List Assn} : Rd (obj b (.cells cs.toArray e) :: F) b 0 cs := fun w hs j u hu => by
  have := hs.obj_heap
  simp only [World.cell?, this, Nat.zero_add, List.getElem?_toArray, hu]
  simp
theorem RdS.of_obj {b n c : Nat} {cs : List Value} {e : TypeId} {F : List Assn} (hn : cs.length = n) (hc : n ≤ c) : RdS (obj b (.cells cs.toArray e) :: F) 1 (.slice (some ⟨b, 0, none⟩) n c) n cs :=
  ⟨_, _, rfl, hc, by rw [hn, Nat.mul_one], fun _ => ⟨b, 0, rfl, Rd.of_obj⟩⟩
theorem run_apart {R : List Assn} {w : World} {tS tR e e1 e2 : TypeId} {size bytes : Nat} {agg : Bool} {zero : List Value} [hT : TyU P tS (.slice e)] [hI : TyI P e agg size bytes zero] {b1 b2 o1 o2 la ca lb cb : Nat} {cs1 cs2 : List Value} {G2 : List Value → List Assn} [hF : Suf l (obj b1 (.cells cs1.toArray e1) :: R)] [hB : At l b2 cs2 e2 G2] (hs : Sat l w) (hne : b1 ≠ b2) (h2 : cs2 ≠ []) :
    (Extern.SlicesOverlaps.overlaps #[tS, tS] #[tR] #[.slice (some ⟨b1, o1, none⟩) la ca, .slice (some ⟨b2, o2, none⟩) lb cb]).run P w = .ok (.bool false) w := by
  have g1 := (Suf.sat hs (h := hF)).obj_heap
  obtain ⟨f2, g3, _⟩ := (At.sat (h := hB) hs).blk_heap
  refine Lib.run_overlaps_apart w tS tR e hT.h size (fun w => TyI.run_size (P := P) (t := e) w) ⟨b1, o1, none⟩ ⟨b2, o2, none⟩ la ca lb cb hne e1 e2 cs1.length cs2.length ?_ ?_ ?_ ?_ ?_
  · simp [World.shape?, g1]
  · simp [World.shape?, g3]
  · cases cs2 with
    | nil => exact absurd rfl h2
    | cons _ _ => simp
  · simp [World.frozen?, g1]
  · simp [World.frozen?, g1]
theorem obj_ne {b1 b2 : Nat} {o : Obj} {cs : List Value} {e : TypeId} {R : List Assn} {w : World} (hs : Sat (blk b2 cs e :: obj b1 o :: R) w) : b1 ≠ b2 := by
  rintro rfl
  obtain ⟨h1, h2, ap, l1, l2, ⟨f, hA, _⟩, h3, h4, _, l3, _, hB, _⟩ := hs
  have hB : h3 b1 = some o := hB
  rcases ap b1 with h | h
  · rw [hA] at h; cases h
  · rw [l3 b1 o hB] at h; cases h
theorem does_append0G {agg : Bool} {size bytes : Nat} {zero : List Value} [hT : TyU P t (.slice e)] [hI : TyI P e agg size bytes zero] {tx : TypeId} {kd : IntKind} [hK : TyU P tx (.int kd)] {kv : IntKind} {n m c : Nat} {m' : Int} {q : Option Addr} {xs : List Value} (hs : Sat l w) (hr : RdS F size (.slice q n c) n xs) [hF : Suf l F]
    (hx : ev fr x = some (.slice q n c)) (hy : ev fr y = some (.int kv m')) (h0 : 0 < size) (hm' : m' = (m : Int)) (hm1 : 0 < m) (hcm : c < n + m) (hb : (n + m) * bytes ≤ 140737488355328) (hm : n + m ≤ 9223372036854775807) :
    Does P r ⟨d, .call { callee := .builtin .append, args := #[x, y], argTypes := #[t, tx] }, ty, pos, aft, g⟩ fr w (fun v' w' => Sat (sl v' e size (n + m) (xs ++ rep m zero) :: l) w') := by
  subst hm'
  obtain ⟨i, hi, h2, h3, h4, h5, h6, h7⟩ := hI.info
  have hzc := TyI.zero_cells P e (agg := agg) (zero := zero)
  have hzA : ∀ w' : World, (zeroValue e).run P w' = .ok (if agg then .agg zero.toArray else zero.headD undef) w' := fun w' => TyI.run_zero (P := P) (t := e) w'
  generalize (if agg then Value.agg zero.toArray else zero.headD undef) = z0 at hzc hzA
  have hw1 : IntKind.i64.wrap (m : Int) = m := wrap64 (by omega)
  have hneg : ¬ ((m : Int) < 0) := by omega
  have hbig : ¬ (281474976710656 < (m : Int) * (i.bytes : Int)) := by
    have h9 : m * bytes ≤ (n + m) * bytes := Nat.mul_le_mul_right _ (by omega)
    have : ((m * bytes : Nat) : Int) ≤ 140737488355328 := by omega
    rw [Int.natCast_mul] at this; rw [h3]; omega
  have hlen : (rep m zero).length = m * size := by rw [rep_length, h6]
  obtain ⟨p', c', e', hc', hxl, hp⟩ := hr
  injection e' with e1 e2 e3
  subst e1; subst e3
  have hold : (Builtin.firstCells i.size n (.slice q n c)).run P w.drew = .ok xs.toArray w.drew := by
    rcases Nat.eq_zero_or_pos (n * size) with hz | hz
    · have hn0 : n = 0 := by
        rcases Nat.mul_eq_zero.1 hz with h | h
        · exact h
        · omega
      subst hn0
      have : xs = [] := List.eq_nil_of_length_eq_zero (by simpa using hxl)
      subst this
      cases q with
      | none => exact run_firstCells_none w.drew i.size 0 0 c
      | some a =>
        rw [h2]
        exact run_firstCells_some w.drew size 0 a 0 c [] (by simp) fun j x hj => by simp at hj
    · obtain ⟨b, o, rfl, hrd⟩ := hp hz
      rw [h2]
      refine run_firstCells_some w.drew size n ⟨b, o, none⟩ n c xs hxl fun j x hj => ?_
      rw [Addr.add_lit]
      exact hrd w (Suf.sat hs) j x hj
  have hn : ¬ (n + m ≤ c) := by omega
  have h63' : ¬ (9223372036854775807 < ((n : Int) + (m : Int))) := by omega
  have hfit := growslice_fits (need := n + m) (old := c) (bytes := i.bytes) (by omega) (by rw [h3]; exact hb)
  have h48' : ¬ (281474976710656 < Builtin.nextslicecap (n + m) c * i.bytes) := by omega
  have hm0 : ¬ m = 0 := by omega
  have hsz0 : ¬ i.size = 0 := by omega
  have hz' : ¬ m * i.size = 0 := by
    intro h
    rcases Nat.mul_eq_zero.1 h with h | h <;> omega
  have hrr : (Builtin.append_ #[t, tx] ty #[.slice q n c, .int kv (m : Int)]).run P w =
    .ok (.slice (some ⟨w.heap.size, 0, none⟩) (n + m) (grownCap w (n + m) c e))
      (w.drew.alloc (.cells ((xs ++ rep m zero).toArray ++ Builtin.zeroCells zero.toArray (grownCap w (n + m) c e - (n + m))) e)) := by
    simp [Builtin.append_, run_underlying hT.h, run_underlying hK.h, sizeOf, typeInfo, hi, asInt, asIntOf, hw1, hneg, hbig, hn, h63', h48', hz', hm0, hsz0, Question.forced, hold, hzA, hzc, newRow, grownCap]
    congr 2
    apply Array.ext'
    simp [rep_zeroCells zero m (by omega), List.append_assoc]
  refine does_value fun _ ds a hf => ⟨.slice (some ⟨w.heap.size, 0, none⟩) (n + m) (grownCap w (n + m) c e), w.drew.alloc (.cells ((xs ++ rep m zero).toArray ++ Builtin.zeroCells zero.toArray (grownCap w (n + m) c e - (n + m))) e), by simp [execOp, resolve, invoke, builtin, hf.ev hx, hf.ev hy, hrr], ?_⟩
  · have hge := grownCap_ge w (n + m) c e
    have hzl : (Builtin.zeroCells zero.toArray (grownCap w (n + m) c e - (n + m))).size = (grownCap w (n + m) c e - (n + m)) * size := by
      rw [size_zeroCells]; simp [h6]
    have hal := (hs.drew).alloc (xs ++ rep m zero ++ (Builtin.zeroCells zero.toArray (grownCap w (n + m) c e - (n + m))).toList) e
    have hd : w.drew.heap.size = w.heap.size := rfl
    rw [hd] at hal
    have he : (xs ++ rep m zero ++ (Builtin.zeroCells zero.toArray (grownCap w (n + m) c e - (n + m))).toList).toArray = (xs ++ rep m zero).toArray ++ Builtin.zeroCells zero.toArray (grownCap w (n + m) c e - (n + m)) := by simp
    rw [he] at hal
    refine hal.sl_mk (c := grownCap w (n + m) c e) hge (by simp [hxl, hlen, Nat.add_mul]) ?_
    simp only [List.length_append, hxl, hlen, Array.length_toList, hzl, ← Nat.add_mul]
    congr 1; omega
def leftO (o : Oper) : Obs → Option Obs
  | [] => some []
  | x :: r => match leftO o r with
    | some l => bif waitsFor [x.1] o then some l else some (x :: l)
    | none => none
theorem leftO_eq (o : Oper) : ∀ obs : Obs, leftO o obs = some (left o obs)
  | [] => rfl
  | x :: r => by
    unfold leftO
    rw [leftO_eq o r]
    dsimp only []
    unfold left
    cases h : waitsFor [x.1] o
    · rw [List.filter_cons_of_pos (by rw [h]; rfl)]; rfl
    · rw [List.filter_cons_of_neg (by rw [h]; decide)]; rfl
theorem MC.doesL {X : Cx} {ds : List Deferred} {k : List It} {fr : Fr} {w : World} {ops : Array Oper} {obs : Obs} {R : List (Nat × Oper)} {i : Nat} {d : Option Tmp} {op : Op} {ty : TypeId} {pos : String} {aft : Array Edge} {Post : Value → World → Prop} {obs' : Obs} (f : Bool) (h : Does X.P X.r ⟨d, op, ty, pos, aft, none⟩ fr w Post) (hd : okD X.n d = true) (hwait : allWait i R = true) (hnd : noDefer ⟨d, op, ty, pos, aft, none⟩ = true)
    (hl : leftO ⟨d, op, ty, pos, aft, none⟩ obs = some obs')
    (hk : ∀ v w', Post v w' → Holds obs' w' ∧ MC X ds (.ops false ops obs' R :: k) (setD d f v fr) w') :
    MC X ds (.ops false ops obs ((i, ⟨d, op, ty, pos, aft, none⟩) :: R) :: k) fr w := fun a hf => by
  rw [leftO_eq] at hl
  cases hl
  refine .inr ⟨rfl, fun _ => ⟨.inl hwait, hnd⟩, fun Q' _ => h X.n ds a hf _ _ fun v w' hp => ?_⟩
  exact ⟨fun _ x hx => (hk v w' hp).1.all x hx, (hk v w' hp).2 _ (hf.setD hd f v)⟩
theorem run_loadB {w : World} : ∀ {ls : List UInt8} {b o : Nat} {acc : ByteArray}, (∀ (j : Nat) (u : Value), (bytesV ls)[j]? = some u → w.cell? ⟨b, o + j, none⟩ = some u) → (Extern.Bytes.loadBytes ⟨b, o, none⟩ ls.length acc).run P w = .ok ⟨acc.data ++ ls.toArray⟩ w
  | [], b, o, acc, _ => by simp [Extern.Bytes.loadBytes]
  | c :: ls, b, o, acc, h => by
    have h0 := h 0 (.int .u8 (c.toNat : Int)) rfl
    have ih := run_loadB (ls := ls) (b := b) (o := o + 1) (acc := acc.push c) fun j u hu => by
      have := h (j + 1) u hu
      rw [show o + (j + 1) = o + 1 + j by omega] at this
      exact this
    rw [Nat.add_zero] at h0
    simp only [List.length_cons, Extern.Bytes.loadBytes, Sem.run_bind, run_load, h0, Result.andThen]
    have e1 : ((c.toNat : Int).toNat).toUInt8 = c := by simp
    rw [e1, Addr.add_lit, ih]
    congr 2
    apply Array.ext'
    simp
theorem run_bytesOf {v : Value} {n : Nat} {ls : List UInt8} (hr : RdS F 1 v n (bytesV ls)) {w : World} (hs : Sat F w) : (Extern.Bytes.bytesOf v).run P w = .ok ⟨ls.toArray⟩ w := by
  obtain ⟨p, c, rfl, hc, hl, hp⟩ := hr
  have hn : ls.length = n := by simpa using hl
  subst hn
  cases p with
  | none =>
    have h0 : ls = [] := by
      cases ls with
      | nil => rfl
      | cons a ls => obtain ⟨b, o, h, _⟩ := hp (by simp); cases h
    subst h0
    simp [Extern.Bytes.bytesOf]
    rfl
  | some a =>
    by_cases h0 : 0 < ls.length * 1
    · obtain ⟨b, o, h, hrd⟩ := hp h0
      cases h
      have := run_loadB (P := P) (w := w) (ls := ls) (b := b) (o := o) (acc := .empty) (fun j u hu => hrd w hs j u hu)
      simp only [Extern.Bytes.bytesOf, this]
      congr 2
      simp
    · have : ls = [] := List.eq_nil_of_length_eq_zero (by omega)
      subst this
      simp [Extern.Bytes.bytesOf, Extern.Bytes.loadBytes]
      rfl
theorem run_cmp {v u : Value} {n m : Nat} {a b : List UInt8} (hr : RdS F 1 v n (bytesV a)) (hq : RdS F 1 u m (bytesV b)) {w : World} (hs : Sat F w) : (Extern.BytealgCompare.compare #[v, u]).run P w = .ok (.int .i64 (Lib.compareBytes a b)) w := by
  have h1 := run_bytesOf (P := P) hr hs
  have h2 := run_bytesOf (P := P) hq hs
  change Sem.run P (do pure (goInt (Extern.BytealgCompare.cmp (← Extern.Bytes.bytesOf v) (← Extern.Bytes.bytesOf u)))) w = _
  simp [h1, h2, Lib.cmp_eq, goInt]
end
end Go.Sl

namespace Go.Sl
open Go
section
variable {P : Program} {r : Option Nat} {fr : Fr} {d : Option Tmp} {ty : TypeId} {pos : String} {aft : Array Edge} {g : Option (Nat × Bool)} {v : Value} {x : Operand} {t e : TypeId} {w : World} {l : List Assn}
theorem does_buildObj {bytes : Nat} {zero : List Value} [hT : TyU P t (.slice e)] [hI : TyI P e false 1 bytes zero] {n : Nat} {ps : Array (Nat × Operand)} {vs : List Value} (hs : Sat l w) (hv : evs fr (ps.toList.map (·.2)) = some vs)
    (hp : ps.toList.map (·.1) = upto 0 vs.length) (hn : vs.length = n) (h1 : ∀ v ∈ vs, v.oneCell' = true) (hb : Nat.ble n 16777216 = true) :
    Does P r ⟨d, .buildSlice t n ps, ty, pos, aft, g⟩ fr w (fun v w' => ∃ b, v = .slice (some ⟨b, 0, none⟩) n n ∧ Sat (obj b (.cells vs.toArray e) :: l) w') := by
  obtain ⟨i, hi, h2, h3, h4, h5, h6, h7⟩ := hI.info
  have hz : (rep n zero).length = vs.length := by rw [rep_length, h6, hn, Nat.mul_one]
  refine does_value fun m ds a hf => ⟨_, w.alloc (.cells vs.toArray e), ?_, w.heap.size, rfl, hs.allocObj _⟩
  have e1 : (ps.map fun (i, x) => (i, a.eval x)).toList = (upto 0 vs.length).zip vs := by simpa using evps_map hf (evps_ones _ vs 0 hp hv)
  have hfill := fill_lay (fun i => some (i * 1, 1)) ((upto 0 vs.length).zip vs) (ones 0 vs) (rep n zero) vs (zip_ones vs 0 h1) (layOk_ones _ vs 0 (by rw [hz]; omega)) (lay_ones vs [] (rep n zero) hz)
  have hn' : ¬ (16777216 < n * 1) := by have : n ≤ 16777216 := by simpa using hb
                                        omega
  have hZ := zeros_eq n zero (by
    rcases Nat.eq_zero_or_pos zero.length with h0 | h0
    · left; simp [h0]
    · exact .inr h0)
  rw [h6] at hZ
  unfold madeCells at hZ
  simp only [execOp, Instr.buildSlice, Sem.run_bind, TyU.run (P := P) (t := t) w, Result.andThen_ok, TyI.run_size (P := P) (t := e) w, e1]
  rw [if_neg (by simpa using hn')]
  by_cases h0 : n * 1 = 0
  · have hr : rep n zero = [] := List.eq_nil_of_length_eq_zero (by rw [rep_length, h6]; exact h0)
    rw [hr] at hfill
    simp only [h0, if_true]
    simp only [Sem.run_pure, Sem.run_bind, Result.andThen_ok, Array.range_zero', Array.map_empty, hfill, newRow, newObj]
    rfl
  · simp only [h0, if_false]
    simp only [Sem.run_pure, Sem.run_bind, Result.andThen_ok, TyI.run_zero (P := P) (t := e) w, TyI.zero_cells P e, hZ, hfill, newRow, newObj]
    rfl
end
end Go.Sl

namespace Go.Proofs.YtjlofdodiaklaaaGreat
open Go Go.Sl
attribute [local irreducible] LooksAt

end Go.Proofs.YtjlofdodiaklaaaGreat

namespace Go.Sl
open Go
section
variable {P : Program} {r : Option Nat} {fr : Fr} {d : Option Tmp} {ty : TypeId} {pos : String} {aft : Array Edge} {g : Option (Nat × Bool)} {v : Value} {x : Operand} {t e : TypeId} {w : World} {l : List Assn}
theorem Sat.marked {b : Nat} {cs : List Value} (hs : Sat (obj b (.cells cs.toArray e) :: l) w) : Sat (blk b cs e :: l) (w.freeze ⟨b, cs.length, none⟩ 1) := by
  have hb := hs.obj_heap
  have hlt := (Array.getElem?_eq_some_iff.1 hb).1
  have he := (Array.getElem?_eq_some_iff.1 hb).2
  have hheap : (w.freeze ⟨b, cs.length, none⟩ 1).heap = w.heap.setIfInBounds b (.cells cs.toArray e (cs.length, cs.length + 1)) := by
    apply Array.ext_getElem?
    intro j
    show (w.heap.modify b _)[j]? = _
    by_cases hj : b = j
    · subst hj
      rw [Array.getElem?_eq_getElem (by rw [Array.size_modify]; exact hlt), Array.getElem_modify_self, he, Array.getElem?_setIfInBounds_self_of_lt hlt]
      rfl
    · rw [Array.getElem?_modify, if_neg hj, Array.getElem?_setIfInBounds_ne hj]
  refine hs.put_at (b := b) (fun _ k hk => by rw [show k b = _ from hk]; rfl) hlt hheap rfl fun _ k hk => ⟨_, hk, ?_⟩
  intro i hi h
  have h2 : cs.length ≤ i := h.1
  omega
theorem does_ofStr {src : TypeId} {sd : TypeDesc} [h0 : TyU P src sd] [hT : TyU P t (.slice e)] [hE : TyU P e (.int .u8)] {s : List UInt8} (hs : Sat l w) (hx : ev fr x = some (str s)) :
    Does P r ⟨d, .convert src t x, ty, pos, aft, g⟩ fr w (fun v w' => Sat (sl v e 1 s.length (bytesV s) :: l) w') := by
  have hr := Lib.run_convert_string_bytes (P := P) w src t e ⟨s.toArray⟩ h0.h hT.h hE.h
  refine does_value fun m ds a hf => ⟨_, Lib.bytesWorld w e ⟨s.toArray⟩, by simp only [execOp, hf.ev hx]; rw [show str s = .string ⟨s.toArray⟩ from rfl, Sem.run_bind, hr]; rfl, ?_⟩
  have hsz : (⟨s.toArray⟩ : ByteArray).size = s.length := by simp [ByteArray.size]
  have hc : (Lib.bytesCells w e ⟨s.toArray⟩) = (bytesV s ++ List.replicate (grownCap w s.length 0 e - s.length) (Value.int .u8 0)).toArray := by
    unfold Lib.bytesCells
    rw [hsz]
    simp [bytesV]
  have ha := hs.drew.allocObj (.cells (bytesV s ++ List.replicate (grownCap w s.length 0 e - s.length) (Value.int .u8 0)).toArray e)
  have hm := ha.marked
  have hw : Lib.bytesWorld w e ⟨s.toArray⟩ = (w.drew.alloc (.cells (bytesV s ++ List.replicate (grownCap w s.length 0 e - s.length) (Value.int .u8 0)).toArray e)).freeze ⟨w.drew.heap.size, (bytesV s ++ List.replicate (grownCap w s.length 0 e - s.length) (Value.int .u8 0)).length, none⟩ 1 := by
    unfold Lib.bytesWorld
    rw [hc]; simp
  rw [hw, hsz]
  have hge := grownCap_ge w s.length 0 e
  exact hm.sl_mk hge (by simp) (by simp; omega)
end
end Go.Sl
