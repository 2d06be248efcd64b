/-
  Trees: change; Put | Trees: remove
-/
import Derived.Test.YtjlofdodiaklaaaGreatYbd
import Derived.Test.YtjlofdodiaklaaaGreatYbe
set_option maxHeartbeats 1000000
set_option linter.unusedVariables false
set_option linter.unusedSimpArgs false
namespace Go.Proofs.YtjlofdodiaklaaaGreat
open Go Go.Sl Go.Tr
attribute [local irreducible] LooksAt

section
variable {F : List Assn} {z : Pw} {s : St} {mk : Option (Nat × St)} {w : World} {tp : Nat}
theorem pgr_forget {x : Nat × St} (hs : Sat (pgr z s (some x) :: F) w) : Sat (pgr z s none :: F) w := by
  obtain ⟨g, hg, hz, hs⟩ := pgr_open hs
  have hs := hs.pickF 7 [0, 1, 2, 3, 4, 5] rfl rfl
  have hs : Sat (star [] :: _) w := Sat.restar (l := []) hs
  exact pgr_shut (g := g) ⟨hg.x, trivial⟩ hz (hs.pickF 7 [1, 2, 3, 4, 5, 6, 0] rfl rfl)
abbrev chB (z : Pw) (tp b4 b6 b2 b5 m : Nat) (e r h n : Int) (F : List Assn) : List Assn :=
  blk b4 [int e] 25 :: blk b6 [ptr z.p, int r, int h, int n] 89 :: blk b2 [ptr tp] 37 :: blk b5 [ptr m] 86 :: F
theorem undo_spec {b4 b6 b2 b5 m : Nat} {e a b c r h n : Int} {s0 : St} (hs : Sat (pgr z s (some (m, s0)) :: tb z tp a b c :: chB z tp b4 b6 b2 b5 m e r h n F) w) :
    RetD Tryz.prog 60 [ptr b4, ptr b6, ptr b2, ptr b5] w fun w' => if e = 0 then Sat (pgr z s (some (m, s0)) :: tb z tp a b c :: chB z tp b4 b6 b2 b5 m e r h n F) w' else Sat (pgr z s0 (some (m, s0)) :: tb z tp r h n :: chB z tp b4 b6 b2 b5 m e r h n F) w' := by
  refine RetD.enter [(true, ptr b4), (true, ptr b6), (true, ptr b2), (true, ptr b5)] _ Tryz.func60 rfl Tryz.ntmps60 rfl ?_
  by_cases he : e = 0
  · refine zz ?_
    refine MC.end_ rfl ?_
    show if e = 0 then _ else _
    rw [if_pos he]
    exact hs
  · refine zz ?_
    refine MC.la true (la_loadV (vs := [ptr z.p, int r, int h, int n]) hs rfl rfl rfl rfl) rfl ?_
    refine zz ?_
    refine MC.does true (does_store (vs := [ptr z.p, int r, int h, int n]) hs rfl rfl rfl rfl (all1 rfl) (by simp)) rfl ?_; intro _ w hs; rw [splice_all (by rfl)] at hs
    refine zz ?_
    refine MC.draw hs [0, 1, 2, 3, 4, 5] (by rfl) ?_; intro w hs
    refine zd ?_
    refine MC.doesK true (does_call rfl (back_spec hs)) rfl rfl rfl ?_
    rintro _ w ⟨rfl, hs⟩
    refine zh ?_
    refine zz ?_
    refine MC.end_ rfl ?_
    show if e = 0 then _ else _
    rw [if_neg he]
    exact hs
theorem change_spec {f : FuncId} [Fun Tryz.prog f] {cap : List Value} {r h n : Int} {F0 : List Assn} {KO : St → Int → Int → Int → List Assn → Prop} {KE : List Assn → Prop} (hs : Sat (pgr z s none :: tb z tp r h n :: F0) w)
    (hin : ∀ (m b4 b6 b2 b5 : Nat) (w1 : World), Sat (pgr z s (some (m, s)) :: tb z tp r h n :: chB z tp b4 b6 b2 b5 m 0 r h n F0) w1 → Ret Tryz.prog f cap w1 fun v w' =>
      (∃ s' a b c F', KO s' a b c F' ∧ v = int 0 ∧ Sat (pgr z s' (some (m, s)) :: tb z tp a b c :: chB z tp b4 b6 b2 b5 m 0 r h n F') w') ∨
      (∃ (e : Int) (s' : St) (a b c : Int) (F' : List Assn), KE F' ∧ e ≠ 0 ∧ v = int e ∧ Sat (pgr z s' (some (m, s)) :: tb z tp a b c :: chB z tp b4 b6 b2 b5 m 0 r h n F') w')) :
    Ret Tryz.prog 30 [ptr tp, .func (.func f) #[] cap.toArray] w fun v w' =>
      (∃ s' a b c F', KO s' a b c F' ∧ v = int 0 ∧ Sat (pgr z s' none :: tb z tp a b c :: F') w') ∨
      (∃ (e : Int) (F' : List Assn), KE F' ∧ e ≠ 0 ∧ v = int e ∧ Sat (pgr z s none :: tb z tp r h n :: F') w') := by
  refine Ret.enterM [(true, ptr tp), (true, .func (.func f) #[] cap.toArray)] _ Tryz.func30 rfl Tryz.ntmps30 rfl ?_
  refine zz ?_
  refine MC.does true (does_box hs rfl rfl) rfl ?_; rintro _ w ⟨b2, rfl, hs⟩
  refine zz ?_
  refine MC.does true (does_alloc hs) rfl ?_; rintro _ w ⟨b4, rfl, hs⟩
  refine zz ?_
  have hs := hs.pickF 4 [2, 3, 0, 1] rfl rfl
  refine MC.cutAtS 1 (σ := Nat × Nat) (fun x => [(1, true, .func (.func f) #[] cap.toArray), (2, true, ptr b2), (4, true, ptr b4), (5, true, ptr x.1), (6, true, ptr x.2)]) (fun x w => ∃ m, Sat (pgr z s (some (m, s)) :: tb z tp r h n :: chB z tp b4 x.2 b2 x.1 m 0 r h n F0) w) rfl ?_ ?_
  rotate_left
  · refine MC.draw hs [0, 1, 2, 3, 5, 6, 7, 4, 8, 9, 10, 11] (by rfl) ?_; intro w hs
    refine zd ?_
    refine MC.laD true (la_loadV (vs := [ptr z.p, int r, int h, int n]) hs rfl rfl rfl rfl) rfl ?_
    refine zd ?_
    refine MC.fork3 8 [4, 9, 10, 11] 9 [4, 8, 10, 11] rfl rfl rfl (does_call rfl (mark_spec hs)) (does_alloc hs) (does_alloc hs) ?_ ?_ ?_
    · rintro _ w ⟨m, rfl, hs⟩; refine zh ?_
      refine zd ?_
      refine MC.fork 9 [8, 10, 11] rfl rfl (does_alloc hs) (does_alloc hs) ?_ ?_
      · rintro _ w ⟨b5, rfl, hs⟩; refine zh ?_
        refine zd ?_
        refine MC.doesK true (does_alloc hs) rfl rfl rfl ?_; rintro _ w ⟨b6, rfl, hs⟩; refine zh ?_
        refine zd ?_
        refine MC.doesL true (does_store1 hs rfl rfl rfl (by simp)) rfl rfl rfl rfl ?_; intro _ w hs; refine zh ?_
        refine zd ?_
        refine MC.doesL true (does_store (vs := [ptr z.p, int r, int h, int n]) hs rfl rfl rfl rfl (all1 rfl) (by simp)) rfl rfl rfl rfl ?_; intro _ w hs; rw [splice_all (by rfl)] at hs; refine zh ?_
        refine zd ?_
        exact MC.meetS (b5, b6) (by repeat (first | exact trivial | refine ⟨rfl, ?_⟩)) ⟨m, hs.pickF 6 [2, 3, 4, 0, 5, 1] rfl rfl⟩
      · rintro _ w ⟨b6, rfl, hs⟩; refine zh ?_
        refine zd ?_
        refine MC.doesK true (does_alloc hs) rfl rfl rfl ?_; rintro _ w ⟨b5, rfl, hs⟩; refine zh ?_
        refine zd ?_
        refine MC.doesL true (does_store1 hs rfl rfl rfl (by simp)) rfl rfl rfl rfl ?_; intro _ w hs; refine zh ?_
        refine zd ?_
        refine MC.doesL true (does_store (vs := [ptr z.p, int r, int h, int n]) hs rfl rfl rfl rfl (all1 rfl) (by simp)) rfl rfl rfl rfl ?_; intro _ w hs; rw [splice_all (by rfl)] at hs; refine zh ?_
        refine zd ?_
        exact MC.meetS (b5, b6) (by repeat (first | exact trivial | refine ⟨rfl, ?_⟩)) ⟨m, hs.pickF 6 [2, 3, 4, 1, 5, 0] rfl rfl⟩
    · rintro _ w ⟨b5, rfl, hs⟩; refine zh ?_
      refine zd ?_
      have hs := hs.pickF 5 [1, 0, 2, 3, 4] rfl rfl
      refine MC.fork 9 [4, 10, 11] rfl rfl (does_call rfl (mark_spec hs)) (does_alloc hs) ?_ ?_
      · rintro _ w ⟨m, rfl, hs⟩; refine zh ?_
        refine zd ?_
        refine MC.doesK true (does_alloc hs) rfl rfl rfl ?_; rintro _ w ⟨b6, rfl, hs⟩; refine zh ?_
        refine zd ?_
        refine MC.doesL true (does_store1 hs rfl rfl rfl (by simp)) rfl rfl rfl rfl ?_; intro _ w hs; refine zh ?_
        refine zd ?_
        refine MC.doesL true (does_store (vs := [ptr z.p, int r, int h, int n]) hs rfl rfl rfl rfl (all1 rfl) (by simp)) rfl rfl rfl rfl ?_; intro _ w hs; rw [splice_all (by rfl)] at hs; refine zh ?_
        refine zd ?_
        exact MC.meetS (b5, b6) (by repeat (first | exact trivial | refine ⟨rfl, ?_⟩)) ⟨m, hs.pickF 6 [1, 3, 4, 0, 5, 2] rfl rfl⟩
      · rintro _ w ⟨b6, rfl, hs⟩; refine zh ?_
        refine zd ?_
        have hs := hs.pickF 6 [1, 0, 2, 3, 4, 5] rfl rfl
        refine MC.doesK true (does_call rfl (mark_spec hs)) rfl rfl rfl ?_; rintro _ w ⟨m, rfl, hs⟩; refine zh ?_
        refine zd ?_
        refine MC.doesL true (does_store1 hs rfl rfl rfl (by simp)) rfl rfl rfl rfl ?_; intro _ w hs; refine zh ?_
        refine zd ?_
        refine MC.doesL true (does_store (vs := [ptr z.p, int r, int h, int n]) hs rfl rfl rfl rfl (all1 rfl) (by simp)) rfl rfl rfl rfl ?_; intro _ w hs; rw [splice_all (by rfl)] at hs; refine zh ?_
        refine zd ?_
        exact MC.meetS (b5, b6) (by repeat (first | exact trivial | refine ⟨rfl, ?_⟩)) ⟨m, hs.pickF 6 [0, 3, 4, 1, 5, 2] rfl rfl⟩
    · rintro _ w ⟨b6, rfl, hs⟩; refine zh ?_
      refine zd ?_
      have hs := hs.pickF 5 [1, 0, 2, 3, 4] rfl rfl
      refine MC.fork 8 [4, 10, 11] rfl rfl (does_call rfl (mark_spec hs)) (does_alloc hs) ?_ ?_
      · rintro _ w ⟨m, rfl, hs⟩; refine zh ?_
        refine zd ?_
        refine MC.doesK true (does_alloc hs) rfl rfl rfl ?_; rintro _ w ⟨b5, rfl, hs⟩; refine zh ?_
        refine zd ?_
        refine MC.doesL true (does_store1 hs rfl rfl rfl (by simp)) rfl rfl rfl rfl ?_; intro _ w hs; refine zh ?_
        refine zd ?_
        refine MC.doesL true (does_store (vs := [ptr z.p, int r, int h, int n]) hs rfl rfl rfl rfl (all1 rfl) (by simp)) rfl rfl rfl rfl ?_; intro _ w hs; rw [splice_all (by rfl)] at hs; refine zh ?_
        refine zd ?_
        exact MC.meetS (b5, b6) (by repeat (first | exact trivial | refine ⟨rfl, ?_⟩)) ⟨m, hs.pickF 6 [1, 3, 4, 2, 5, 0] rfl rfl⟩
      · rintro _ w ⟨b5, rfl, hs⟩; refine zh ?_
        refine zd ?_
        have hs := hs.pickF 6 [1, 0, 2, 3, 4, 5] rfl rfl
        refine MC.doesK true (does_call rfl (mark_spec hs)) rfl rfl rfl ?_; rintro _ w ⟨m, rfl, hs⟩; refine zh ?_
        refine zd ?_
        refine MC.doesL true (does_store1 hs rfl rfl rfl (by simp)) rfl rfl rfl rfl ?_; intro _ w hs; refine zh ?_
        refine zd ?_
        refine MC.doesL true (does_store (vs := [ptr z.p, int r, int h, int n]) hs rfl rfl rfl rfl (all1 rfl) (by simp)) rfl rfl rfl rfl ?_; intro _ w hs; rw [splice_all (by rfl)] at hs; refine zh ?_
        refine zd ?_
        exact MC.meetS (b5, b6) (by repeat (first | exact trivial | refine ⟨rfl, ?_⟩)) ⟨m, hs.pickF 6 [0, 3, 4, 2, 5, 1] rfl rfl⟩
  · rintro ⟨b5, b6⟩ w ⟨m, hs⟩
    dsimp only [List.drop] at hs ⊢
    refine zz ?_
    refine MC.pure (f := true) (po_makeFunc rfl rfl) rfl ?_
    refine MC.defer (f := 60) (first := []) (cap := [ptr b4, ptr b6, ptr b2, ptr b5]) (vs := []) rfl rfl rfl ?_
    refine zz ?_
    refine MC.does true (does_callv (f := f) (first := []) (capt := cap) (vs := []) rfl rfl (hin m b4 b6 b2 b5 w hs)) rfl ?_
    rintro v w (⟨s', a, b, c', F', hk, rfl, hs⟩ | ⟨e, s', a, b, c', F', hk, he, rfl, hs⟩)
    · refine zz ?_
      refine MC.does true (does_store1 hs rfl rfl rfl (by first | decide | (simp; done) | (simp; omega))) rfl ?_; intro _ w hs
      refine zz ?_
      refine MC.retD (args := ([] : List Value) ++ []) (cap := [ptr b4, ptr b6, ptr b2, ptr b5]) (undo_spec (e := 0) hs) ?_
      rintro w' hq a0 hf'
      rw [if_pos rfl] at hq
      exact ⟨_, run_results_cell (vs := [int 0]) hf' rfl hq rfl rfl rfl rfl, .inl ⟨s', a, b, c', F', hk, rfl, pgr_forget (hq.pickF 6 [0, 1] rfl rfl)⟩⟩
    · refine zz ?_
      refine MC.does true (does_store1 hs rfl rfl rfl (by first | decide | (simp; done) | (simp; omega))) rfl ?_; intro _ w hs
      refine zz ?_
      refine MC.retD (args := ([] : List Value) ++ []) (cap := [ptr b4, ptr b6, ptr b2, ptr b5]) (undo_spec (e := e) hs) ?_
      rintro w' hq a0 hf'
      rw [if_neg he] at hq
      exact ⟨_, run_results_cell (vs := [int e]) hf' rfl hq rfl rfl rfl rfl, .inr ⟨e, F', hk, he, rfl, pgr_forget (hq.pickF 6 [0, 1] rfl rfl)⟩⟩
theorem tnone_spec {a b c : Value} (hs : Sat F w) {G : List Value → List Assn} [hA : At F tp [ptr z.p, a, b, c] 89 G] : Ret Tryz.prog 59 [ptr tp] w fun v w' => v = bool false ∧ w' = w := by
  refine Ret.enter [(true, ptr tp)] _ Tryz.func59 rfl Tryz.ntmps59 rfl ?_
  refine zz ?_
  refine MC.ret rfl ?_
  exact ⟨rfl, rfl⟩
theorem fits_spec {a b c : Value} {vk : Value} {key : Bs} (hs : Sat F w) {G : List Value → List Assn} [hA : At F tp [ptr z.p, a, b, c] 89 G] (hkey : RdS F 1 vk key.length (bytesV key)) : Ret Tryz.prog 29 [ptr tp, vk] w fun v w' => v = int (if 1 ≤ key.length ∧ key.length ≤ 64 then 0 else 2) ∧ w' = w := by
  obtain ⟨q, cc, rfl, _, _⟩ := hkey.shape
  have hn := tnone_spec (tp := tp) (z := z) hs
  refine Ret.enter [(true, ptr tp), (true, .slice q key.length cc)] _ Tryz.func29 rfl Tryz.ntmps29 rfl ?_
  refine zz ?_
  refine MC.does true (does_call rfl (hn)) rfl ?_
  rintro _ _ ⟨rfl, rfl⟩
  refine zz ?_
  by_cases h0 : key.length < 1
  · rw [if_neg (by omega)]
    refine zz ?_
    refine MC.ret rfl ?_
    exact ⟨rfl, rfl⟩
  · by_cases h1 : 64 < key.length
    · rw [if_neg (by omega)]
      refine zz ?_
      refine MC.ret rfl ?_
      exact ⟨rfl, rfl⟩
    · rw [if_pos (by omega)]
      refine zz ?_
      refine MC.ret rfl ?_
      exact ⟨rfl, rfl⟩
def rootI (t : T) : Int := if t.height = 0 then -1 else ((t.root : Nat) : Int)
theorem tPut_spec {t : T} {key value : Bs} {vk vv : Value} (hs : Sat (pgr z s none :: tb z tp (rootI t) ((t.height : Nat) : Int) ((t.count : Nat) : Int) :: F) w)
    (hkey : RdS F 1 vk key.length (bytesV key)) (hval : RdS F 1 vv value.length (bytesV value)) (hvl : value.length ≤ 1000000) (hrt : t.root ≤ 100000) (hh : t.height ≤ 100000) (hct : t.count ≤ 1000000000) :
    Ret Tryz.prog 11 [ptr tp, vk, vv] w fun v w' =>
      (∃ t' s', putT z.E t key value s (.ok t') s' ∧ 1 ≤ key.length ∧ key.length ≤ 64 ∧ 1 ≤ t'.height ∧ v = int 0 ∧ Sat (pgr z s' none :: tb z tp (rootI t') ((t'.height : Nat) : Int) ((t'.count : Nat) : Int) :: F) w') ∨
      (∃ e : Int, e ≠ 0 ∧ v = int e ∧ Sat (pgr z s none :: tb z tp (rootI t) ((t.height : Nat) : Int) ((t.count : Nat) : Int) :: F) w') := by
  obtain ⟨qk, ck, rfl, _, _⟩ := hkey.shape
  obtain ⟨qv, cv, rfl, _, _⟩ := hval.shape
  refine Ret.enter [(true, ptr tp), (true, .slice qk key.length ck), (true, .slice qv value.length cv)] _ Tryz.func11 rfl Tryz.ntmps11 rfl ?_
  refine zz ?_
  refine MC.does true (does_box hs rfl rfl) rfl ?_; rintro _ w ⟨b0, rfl, hs⟩
  refine zz ?_
  refine MC.does true (does_box hs rfl rfl) rfl ?_; rintro _ w ⟨b2, rfl, hs⟩
  refine zz ?_
  refine MC.does true (does_box hs rfl rfl) rfl ?_; rintro _ w ⟨b1, rfl, hs⟩
  refine zz ?_
  have hf := fits_spec (tp := tp) (z := z) hs hkey.up
  refine MC.does true (does_call rfl (hf)) rfl ?_
  rintro _ _ ⟨rfl, rfl⟩
  by_cases hkl : 1 ≤ key.length ∧ key.length ≤ 64
  · rw [if_pos hkl]
    refine zz ?_
    by_cases hv2 : 16384 < value.length
    · refine zz ?_
      refine MC.ret rfl ?_
      exact .inr ⟨3, by decide, rfl, hs.pickF 5 [3, 4] rfl rfl⟩
    · refine zz ?_
      refine MC.pure (f := true) (po_makeFunc rfl rfl) rfl ?_
      refine zz ?_
      have hs := hs.pickF 5 [3, 4, 2, 0, 1] rfl rfl
      have hc := change_spec (f := 31) (cap := [ptr b0, ptr b1, ptr b2]) (KO := fun s' a b c F' => ∃ t', putT z.E t key value s (.ok t') s' ∧ 1 ≤ t'.height ∧ a = ((t'.root : Nat) : Int) ∧ b = ((t'.height : Nat) : Int) ∧ c = ((t'.count : Nat) : Int) ∧ F' = F) (KE := fun F' => F' = F) hs (fun m b4 b6 b7 b8 w1 hs1 => by
        have hs1 := hs1.pickF 9 [0, 1, 6, 7, 8, 2, 3, 4, 5] rfl rfl
        refine (tput1_spec hs1 (fun h => by unfold rootI; rw [if_neg (by omega)]) hkey.up (by omega) hval.up hvl hrt hh hct).mono ?_
        rintro v w' (⟨t', s', hm, h1, h2, rfl, hs⟩ | ⟨e, s', he, hm, rfl, a, b, c, hs⟩)
        · exact .inl ⟨s', _, _, _, F, ⟨t', hm, h1, rfl, rfl, rfl, rfl⟩, rfl, hs⟩
        · exact .inr ⟨e, s', a, b, c, F, rfl, he, rfl, hs⟩)
      refine MC.does true (does_call rfl (hc)) rfl ?_
      rintro _ w (⟨s', a, b, c, F', ⟨t', hm, h1, rfl, rfl, rfl, rfl⟩, rfl, hs⟩ | ⟨e, F', rfl, he, rfl, hs⟩)
      · refine zz ?_
        refine MC.ret rfl ?_
        refine .inl ⟨t', s', hm, hkl.1, hkl.2, h1, rfl, ?_⟩
        unfold rootI
        rw [if_neg (by omega)]
        exact hs
      · refine zz ?_
        refine MC.ret rfl ?_
        exact .inr ⟨e, he, rfl, hs⟩
  · rw [if_neg hkl]
    refine zz ?_
    refine MC.ret rfl ?_
    exact .inr ⟨2, by decide, rfl, hs.pickF 5 [3, 4] rfl rfl⟩
end
end Go.Proofs.YtjlofdodiaklaaaGreat

namespace Go.Proofs.YtjlofdodiaklaaaGreat
open Go Go.Sl Go.Tr
attribute [local irreducible] LooksAt

def Deep (E : En) (s : St) : Nat → Nat → Prop
  | 0, _ => True
  | h + 1, page => ∀ n s', levelM E page false s (.ok n) s' → 1 ≤ n.keys.length ∧ ∀ k ∈ n.kids, Deep E s h k
section
variable {mk : Option (Nat × St)} {z : Pw} {tp : Nat} {r h c : Value}
set_option maxHeartbeats 2000000 in
theorem tremove_spec : ∀ (hh : Nat) {F : List Assn} {G : List Value → List Assn} {s : St} {w : World} {page : Nat} {vk : Value} {key : Bs} (hs : Sat (pgr z s mk :: F) w) (hA : At F tp [ptr z.p, r, h, c] 89 G)
    (hkey : RdS F 1 vk key.length (bytesV key)) (hkl : key.length ≤ 255) (hp : page ≤ 100000) (hhh : hh ≤ 100000) (hdeep : Deep z.E s hh page),
    Ret Tryz.prog 39 [ptr tp, int ((page : Nat) : Int), int ((hh : Nat) + 1 : Int), vk] w (OutI (removeM z.E (hh + 1) page key) z s mk F) := by
  intro hh
  induction hh with
  | zero =>
    intro F G s w page vk key hs hA hkey hkl hp hhh hdeep
    obtain ⟨qk, qc, rfl, _, _⟩ := hkey.shape
    refine Ret.enter [(true, ptr tp), (true, int ((page : Nat) : Int)), (true, int (((0 : Nat) : Int) + 1)), (true, .slice qk key.length qc)] _ Tryz.func39 rfl Tryz.ntmps39 rfl ?_
    refine zz ?_
    refine MC.does true (does_alloc hs) rfl ?_; rintro _ w ⟨b8, rfl, hs⟩
    refine zz ?_
    have hlv := levelM_spec (tp := tp) (hh := 0) hs.swap hp
    refine MC.does true (does_call rfl (hlv)) rfl ?_
    rintro _ w (⟨n, s', hm, hri, ⟨sk, sv, si, rk, rv⟩, pool, hin, hfew, rfl, hs⟩ | ⟨e, s', he, hm, lf, q1, n1, c1, q2, n2, c2, q3, n3, c3, rfl, hs⟩)
    · obtain ⟨e1, hlf⟩ := level_same hm
      obtain ⟨_, qk1, ck1, rfl, _⟩ := hs.tail.sl_len
      obtain ⟨_, qv1, cv1, rfl, _⟩ := hs.tail.tail.sl_len
      obtain ⟨_, qi1, ci1, rfl, _⟩ := hs.tail.tail.tail.sl_len
      have hlf : n.leaf = true := hlf
      have h3 := hri.1.2.2
      rw [if_pos hlf] at h3
      obtain ⟨hvl, hk0, hv16⟩ := h3
      have hs := hs.pickF 6 [4, 0, 1, 2, 3, 5] rfl rfl
      refine zz ?_
      refine MC.does true (does_alloc hs) rfl ?_; rintro _ w ⟨b11, rfl, hs⟩
      refine zz ?_
      refine MC.does true (does_store (vs := [bool n.leaf, .slice qk1 n.keys.length ck1, .slice qv1 n.vals.length cv1, .slice qi1 n.kids.length ci1]) hs rfl rfl rfl rfl (all1 rfl) (by simp)) rfl ?_; intro _ w hs; rw [splice_all (by rfl)] at hs
      refine zz ?_
      refine MC.la true (la_loadV (vs := [bool n.leaf, .slice qk1 n.keys.length ck1, .slice qv1 n.vals.length cv1, .slice qi1 n.kids.length ci1]) hs rfl rfl rfl rfl) rfl ?_
      refine zz ?_
      have hrd := hin.read (F := _) hfew hs.tail.tail
      have hfd := nfind_spec hs hrd.up (hkey.up)
      refine MC.does true (does_call rfl (hfd)) rfl ?_
      rintro _ w ⟨rfl, hs⟩
      have hone := hrd.keys.one
      have hone2 := hrd.vals.one
      obtain ⟨hfle, hfis⟩ := find_le (n := n) (key := key)
      have hmod : ∀ (r : Res (Md × Bool)) (s2 : St), (if (n.find key).2 = true then (loseM z.E (n.vals.getD (n.find key).1 [])).bind fun _ => (saveM z.E page { n with keys := n.keys.eraseIdx (n.find key).1, vals := n.vals.eraseIdx (n.find key).1 }).bind fun m => M.pure (m, true) else M.pure (⟨page, none, [], 256⟩, false)) s' r s2 → removeM z.E (0 + 1) page key s r s2 := fun r s2 hr => by
        unfold removeM
        refine .inr ⟨n, s', hm, ?_⟩
        dsimp only []
        rw [if_pos rfl]
        exact hr
      generalize (n.find key).1 = i at *
      cases hbis : (n.find key).2 with
      | true =>
        rw [hbis] at hfis hmod
        simp only [if_true] at hmod
        have hik := (hfis rfl).2
        have hiv : i < n.vals.length := by rw [hvl]; exact hik
        obtain ⟨vb, vo, vcc, q2, c3, hv1, hvg, hvr, hv2⟩ := hrd.vals.get hiv
        have hvg' : rv[((i : Nat) : Int).toNat * 1]? = some (.slice q2 n.vals[i].length c3) := by rw [Int.toNat_natCast, Nat.mul_one]; exact hvg
        have hv1' : qv1 = some ⟨vb, vo, none⟩ ∧ cv1 = vcc := by injection hv1 with h1 h2 h3; exact ⟨h1, h3⟩
        obtain ⟨rfl, rfl⟩ := hv1'
        have hvi16 := hv16 _ (List.getElem_mem hiv)
        have hgd : n.vals.getD i [] = n.vals[i] := getD_at hiv
        rw [hgd] at hmod
        refine zz ?_
        refine MC.la true (la_load1_rd hvr hs (j := ((i : Nat) : Int).toNat * 1) rfl hvg') rfl ?_
        refine zz ?_
        have hls := tlose_spec (tp := tp) (cell := n.vals[i]) hs.swap hv2.up (by omega)
        refine MC.does true (does_call rfl (hls)) rfl ?_
        rintro _ w (⟨_, s2, hm2, rfl, hs⟩ | ⟨e, s2, he, hm2, rfl, hs⟩)
        · refine zz ?_
          have hs := hs.pickF 7 [3, 4, 0, 1, 2, 5, 6] rfl rfl
          have hf1 := hfew.keys
          refine MC.draw hs [0, 1, 2, 3, 4, 6, 7, 8, 9, 10, 5, 12, 11, 13, 14, 15] (by rfl) ?_; intro w hs
          refine zd ?_
          have hdK := delB_spec hs hik (by omega) hone
          rw [show (((i + 1 : Nat)) : Int) = ((i : Nat) : Int) + 1 from by omega] at hdK
          refine MC.doesK true (does_call rfl (hdK)) rfl rfl rfl ?_
          intro vB w hs
          refine zh ?_
          obtain ⟨_, qB, cB, rfl, _⟩ := hs.sl_len
          refine zd ?_
          have hs := hs.swap
          have hdV := delB_spec hs hiv (by have := hfew.vals; omega) hone2
          rw [show (((i + 1 : Nat)) : Int) = ((i : Nat) : Int) + 1 from by omega] at hdV
          refine MC.doesK true (does_call rfl (hdV)) rfl rfl rfl ?_
          intro vV w hs
          refine zh ?_
          obtain ⟨_, qV, cV, rfl, _⟩ := hs.sl_len
          refine zd ?_
          refine MC.doesL true (does_store1 hs rfl rfl rfl (by simp)) rfl rfl rfl rfl ?_; intro _ w hs; refine zh ?_
          refine zd ?_
          refine MC.doesL true (does_store1 hs rfl rfl rfl (by simp)) rfl rfl rfl rfl ?_; intro _ w hs; refine zh ?_
          have hs := hs.pickF 7 [2, 4, 1, 0, 5, 3, 6] rfl rfl
          refine zz ?_
          refine MC.la true (la_loadV (vs := [bool n.leaf, .slice qB (n.keys.length - 1) cB, .slice qV (n.vals.length - 1) cV, .slice qi1 n.kids.length ci1]) hs rfl rfl rfl rfl) rfl ?_
          have hii := inp_erase (j := i) ⟨hin.kl, hin.key⟩
          have hii2 := inp_erase (j := i) ⟨hin.vl, hin.val⟩
          have hkl2 : (n.keys.eraseIdx i).length = n.keys.length - 1 := List.length_eraseIdx_of_lt hik
          have hvl2 : (n.vals.eraseIdx i).length = n.vals.length - 1 := List.length_eraseIdx_of_lt hiv
          have hin' : NdIn pool ⟨.slice qB (n.keys.length - 1) cB, .slice qV (n.vals.length - 1) cV, .slice qi1 n.kids.length ci1, rk.eraseIdx i, rv.eraseIdx i⟩ { n with keys := n.keys.eraseIdx i, vals := n.vals.eraseIdx i } := ⟨hii.1, hii.2, hii2.1, hii2.2⟩
          have hd := hs.tail
          have hrd := hin'.read2 hd (by show RdS _ 1 _ (n.keys.eraseIdx i).length _; rw [hkl2]; exact RdS.of_sl hd.tail) (by show RdS _ 1 (.slice qV (n.vals.length - 1) cV) (n.vals.eraseIdx i).length _; rw [hvl2]; exact (RdS.of_sl hd.tail.tail).up) (RdS.of_sl hd.tail.tail.tail).up ⟨by show (n.keys.eraseIdx i).length ≤ 1000; omega, by show (n.vals.eraseIdx i).length ≤ 1000; have := hfew.vals; omega, by show n.kids.length ≤ 1000; have := hfew.kids; omega⟩ (fun k h => by have := hfew.k k (List.mem_of_mem_eraseIdx h); omega) (fun k h => by have := hfew.v k (List.mem_of_mem_eraseIdx h); omega)
          have hsv := tsave_spec (tp := tp) (page := page) hs hrd.up (fun k h => by have := hfew.c k h; omega) hp
          refine zz ?_
          refine MC.does true (does_call rfl (hsv)) rfl ?_
          rintro _ w (⟨md2, s3, hm3, hmd2, vk3, rfl, hs⟩ | ⟨e, s3, he, hm3, a2, c2, q2, n2, cc2, d2, rfl, hs⟩)
          · obtain ⟨_, qm2, cm2, rfl, _⟩ := hs.sl_len
            refine zz ?_
            refine MC.does true (does_alloc hs) rfl ?_; rintro _ w ⟨b16, rfl, hs⟩
            refine zz ?_
            refine MC.does true (does_store (vs := mdC ((md2.page : Nat) : Int) (pageI md2.other) (.slice qm2 md2.key.length cm2) ((md2.size : Nat) : Int)) hs rfl rfl rfl rfl (all1 rfl) (by simp)) rfl ?_; intro _ w hs; rw [splice_all (by rfl)] at hs
            refine zz ?_
            refine MC.la true (la_loadV (vs := mdC ((md2.page : Nat) : Int) (pageI md2.other) (.slice qm2 md2.key.length cm2) ((md2.size : Nat) : Int)) hs rfl rfl rfl rfl) rfl ?_
            refine zz ?_
            refine MC.does true (does_store (vs := mdC ((md2.page : Nat) : Int) (pageI md2.other) (.slice qm2 md2.key.length cm2) ((md2.size : Nat) : Int)) hs rfl rfl rfl rfl (all1 rfl) (by simp)) rfl ?_; intro _ w hs; rw [splice_all (by rfl)] at hs
            refine zz ?_
            refine MC.retR (vs := [.agg (mdC ((md2.page : Nat) : Int) (pageI md2.other) (.slice qm2 md2.key.length cm2) ((md2.size : Nat) : Int)).toArray, bool true, int 0]) ⟨⟨⟨b8, 0, none⟩, rfl, load_cellA hs rfl⟩, rfl, rfl, trivial⟩ ?_
            exact .inl ⟨(md2, true), s3, hmod _ _ (.inr ⟨_, s2, hm2, .inr ⟨md2, s3, hm3, rfl, rfl⟩⟩), hmd2, .slice qm2 md2.key.length cm2, rfl, hs.pickF 9 [1, 2] rfl rfl⟩
          · skip
            refine zz ?_
            refine MC.does true (does_alloc hs) rfl ?_; rintro _ w ⟨b16, rfl, hs⟩
            refine zz ?_
            refine MC.does true (does_store (vs := mdC a2 c2 (.slice q2 n2 cc2) d2) hs rfl rfl rfl rfl (all1 rfl) (by simp)) rfl ?_; intro _ w hs; rw [splice_all (by rfl)] at hs
            refine zz ?_
            refine MC.la true (la_loadV (vs := mdC a2 c2 (.slice q2 n2 cc2) d2) hs rfl rfl rfl rfl) rfl ?_
            refine zz ?_
            refine MC.does true (does_store (vs := mdC a2 c2 (.slice q2 n2 cc2) d2) hs rfl rfl rfl rfl (all1 rfl) (by simp)) rfl ?_; intro _ w hs; rw [splice_all (by rfl)] at hs
            refine zz ?_
            refine MC.retR (vs := [.agg (mdC a2 c2 (.slice q2 n2 cc2) d2).toArray, bool true, int e]) ⟨⟨⟨b8, 0, none⟩, rfl, load_cellA hs rfl⟩, rfl, rfl, trivial⟩ ?_
            exact .inr ⟨e, s3, he, hmod _ _ (.inr ⟨_, s2, hm2, .inl ⟨e, hm3, rfl⟩⟩), _, _, _, _, _, _, _, rfl, hs.pickF 8 [1] rfl rfl⟩
        · skip
          refine zz ?_
          refine MC.pure (f := true) (po_build (ls := []) (out := mdC 0 0 (.slice none 0 0) 0) rfl rfl trivial rfl) rfl ?_
          refine zz ?_
          refine MC.does true (does_store (vs := mdC 0 0 (.slice none 0 0) 0) hs rfl rfl rfl rfl (all1 rfl) (by simp)) rfl ?_; intro _ w hs; rw [splice_all (by rfl)] at hs
          refine zz ?_
          refine MC.retR (vs := [.agg (mdC 0 0 (.slice none 0 0) 0).toArray, bool false, int e]) ⟨⟨⟨b8, 0, none⟩, rfl, load_cellA hs rfl⟩, rfl, rfl, trivial⟩ ?_
          exact .inr ⟨e, s2, he, hmod _ _ (.inl ⟨e, hm2, rfl⟩), _, _, _, _, _, _, _, rfl, hs.pickF 7 [0] rfl rfl⟩
      | false =>
        rw [hbis] at hmod
        simp only [Bool.false_eq_true, if_false] at hmod
        refine zz ?_
        refine MC.pure (f := true) (po_build (ls := [(0, [int ((page : Nat) : Int)]), (1, [int (-1)]), (3, [int 256])]) (out := mdC ((page : Nat) : Int) (-1) (.slice none 0 0) 256) rfl rfl ⟨⟨_, rfl, by simp⟩, ⟨_, rfl, by simp⟩, ⟨_, rfl, by simp⟩, trivial⟩ rfl) rfl ?_
        refine zz ?_
        refine MC.does true (does_store (vs := mdC ((page : Nat) : Int) (-1) (.slice none 0 0) 256) hs rfl rfl rfl rfl (all1 rfl) (by simp)) rfl ?_; intro _ w hs; rw [splice_all (by rfl)] at hs
        refine zz ?_
        refine MC.retR (vs := [.agg (mdC ((page : Nat) : Int) (-1) (.slice none 0 0) 256).toArray, bool false, int 0]) ⟨⟨⟨b8, 0, none⟩, rfl, load_cellA hs rfl⟩, rfl, rfl, trivial⟩ ?_
        exact .inl ⟨(⟨page, none, [], 256⟩, false), s', hmod _ _ ⟨rfl, rfl⟩, ⟨hp, fun o h => (by cases h), (by show 256 ≤ 10000000; decide), Nat.zero_le _⟩, .slice none 0 0, rfl, (hs.pickF 7 [1] rfl rfl).sl_nil _ _⟩
    · refine zz ?_
      refine MC.does true (does_alloc hs) rfl ?_; rintro _ w ⟨b11, rfl, hs⟩
      refine zz ?_
      refine MC.does true (does_store (vs := [bool lf, .slice q1 n1 c1, .slice q2 n2 c2, .slice q3 n3 c3]) hs rfl rfl rfl rfl (all1 rfl) (by simp)) rfl ?_; intro _ w hs; rw [splice_all (by rfl)] at hs
      refine zz ?_
      refine MC.pure (f := true) (po_build (ls := []) (out := mdC 0 0 (.slice none 0 0) 0) rfl rfl trivial rfl) rfl ?_
      refine zz ?_
      refine MC.does true (does_store (vs := mdC 0 0 (.slice none 0 0) 0) hs rfl rfl rfl rfl (all1 rfl) (by simp)) rfl ?_; intro _ w hs; rw [splice_all (by rfl)] at hs
      refine zz ?_
      refine MC.retR (vs := [.agg (mdC 0 0 (.slice none 0 0) 0).toArray, bool false, int e]) ⟨⟨⟨b8, 0, none⟩, rfl, load_cellA hs rfl⟩, rfl, rfl, trivial⟩ ?_
      exact .inr ⟨e, s', he, (by unfold removeM; exact .inl ⟨e, hm, rfl⟩), _, _, _, _, _, _, _, rfl, hs.pickF 3 [1] rfl rfl⟩
  | succ hh ih =>
    intro F G s w page vk key hs hA hkey hkl hp hhh hdeep
    obtain ⟨qk, qc, rfl, _, _⟩ := hkey.shape
    refine Ret.enter [(true, ptr tp), (true, int ((page : Nat) : Int)), (true, int (((hh + 1 : Nat) : Int) + 1)), (true, .slice qk key.length qc)] _ Tryz.func39 rfl Tryz.ntmps39 rfl ?_
    refine zz ?_
    refine MC.does true (does_alloc hs) rfl ?_; rintro _ w ⟨b8, rfl, hs⟩
    refine zz ?_
    have hlv := levelM_spec (tp := tp) (hh := hh + 1) hs.swap hp
    refine MC.does true (does_call rfl (hlv)) rfl ?_
    rintro _ w (⟨n, s', hm, hri, ⟨sk, sv, si, rk, rv⟩, pool, hin, hfew, rfl, hs⟩ | ⟨e, s', he, hm, lf, q1, n1, c1, q2, n2, c2, q3, n3, c3, rfl, hs⟩)
    · obtain ⟨e1, hlf⟩ := level_same hm
      obtain ⟨_, qk1, ck1, rfl, _⟩ := hs.tail.sl_len
      obtain ⟨_, qv1, cv1, rfl, _⟩ := hs.tail.tail.sl_len
      obtain ⟨_, qi1, ci1, rfl, _⟩ := hs.tail.tail.tail.sl_len
      have hlf : n.leaf = false := hlf
      have h3 := hri.1.2.2
      rw [if_neg (by rw [hlf]; decide)] at h3
      obtain ⟨hv0, hkk, hk8⟩ := h3
      have hs := hs.pickF 6 [4, 0, 1, 2, 3, 5] rfl rfl
      refine zz ?_
      refine MC.does true (does_alloc hs) rfl ?_; rintro _ w ⟨b11, rfl, hs⟩
      refine zz ?_
      refine MC.does true (does_store (vs := [bool n.leaf, .slice qk1 n.keys.length ck1, .slice qv1 n.vals.length cv1, .slice qi1 n.kids.length ci1]) hs rfl rfl rfl rfl (all1 rfl) (by simp)) rfl ?_; intro _ w hs; rw [splice_all (by rfl)] at hs
      refine zz ?_
      refine MC.la true (la_loadV (vs := [bool n.leaf, .slice qk1 n.keys.length ck1, .slice qv1 n.vals.length cv1, .slice qi1 n.kids.length ci1]) hs rfl rfl rfl rfl) rfl ?_
      refine zz ?_
      have hrd := hin.read (F := _) hfew hs.tail.tail
      have hfd := nfind_spec hs hrd.up (hkey.up)
      refine MC.does true (does_call rfl (hfd)) rfl ?_
      rintro _ w ⟨rfl, hs⟩
      have hone := hrd.keys.one
      have hone2 := hrd.vals.one
      obtain ⟨hfle, hfis⟩ := find_le (n := n) (key := key)
      obtain ⟨hk1, hdk⟩ := hdeep n s' hm
      have hmod : ∀ (r : Res (Md × Bool)) (s2 : St), ((removeM z.E (hh + 1) (n.kids.getD (n.find key).1 0) key).bind fun y => if y.2 then
              if y.1.other = none ∧ y.1.size < 80 then (mendM z.E page { n with kids := n.kids.set (n.find key).1 y.1.page } (n.find key).1).bind fun m => M.pure (m, true)
              else (renewM z.E page n (n.find key).1 y.1).bind fun m => M.pure (m, true)
            else M.pure (⟨page, none, [], 256⟩, false)) s' r s2 → removeM z.E (hh + 1 + 1) page key s r s2 := fun r s2 hr => by
        unfold removeM
        refine .inr ⟨n, s', hm, ?_⟩
        dsimp only []
        rw [if_neg (by omega)]
        exact hr
      generalize (n.find key).1 = i at *
      have hiv : i < n.kids.length := by omega
      have hgd : n.kids.getD i 0 = n.kids[i] := by rw [List.getD_eq_getElem?_getD, List.getElem?_eq_getElem hiv]; rfl
      rw [hgd] at hmod
      have hk8i := hk8 _ (List.getElem_mem hiv)
      have hdp : Deep z.E s' hh n.kids[i] := by rw [e1]; exact hdk _ (List.getElem_mem hiv)
      obtain ⟨kb, ko, hq, hkr⟩ := hrd.kids.at_ (by omega)
      subst hq
      have hat : (bufV n.kids)[((i : Nat) : Int).toNat * 1]? = some (int ((n.kids[i] : Nat) : Int)) := by
        rw [Int.toNat_natCast, Nat.mul_one]; simp [bufV, hiv]
      refine zz ?_
      refine MC.la true (la_load1_rd hkr hs (j := ((i : Nat) : Int).toNat * 1) rfl hat) rfl ?_
      have eh : (((hh + 1 : Nat) : Int) + 1 - 1) = ((hh : Nat) : Int) + 1 := by omega
      have hs := hs.swap
      refine zz ?_
      have hcall := ih hs inferInstance hkey.up hkl (show n.kids[i] ≤ 100000 by omega) (by omega) hdp
      rw [eh]
      refine MC.does true (does_call rfl (hcall)) rfl ?_
      rintro _ w (⟨⟨md, fr⟩, s2, hm2, hmd, vk2, rfl, hs⟩ | ⟨e, s2, he, hm2, a2, c2, q2, n2, cc2, d2, t2, rfl, hs⟩)
      · dsimp only [] at hmd hs
        obtain ⟨_, qm, cm, rfl, _⟩ := hs.sl_len
        refine zz ?_
        refine MC.does true (does_alloc hs) rfl ?_; rintro _ w ⟨b18, rfl, hs⟩
        refine zz ?_
        refine MC.does true (does_store (vs := mdC ((md.page : Nat) : Int) (pageI md.other) (.slice qm md.key.length cm) ((md.size : Nat) : Int)) hs rfl rfl rfl rfl (all1 rfl) (by simp)) rfl ?_; intro _ w hs; rw [splice_all (by rfl)] at hs
        cases fr with
        | false =>
          refine zz ?_
          refine MC.pure (f := true) (po_build (ls := [(0, [int ((page : Nat) : Int)]), (1, [int (-1)]), (3, [int 256])]) (out := mdC ((page : Nat) : Int) (-1) (.slice none 0 0) 256) rfl rfl ⟨⟨_, rfl, by simp⟩, ⟨_, rfl, by simp⟩, ⟨_, rfl, by simp⟩, trivial⟩ rfl) rfl ?_
          refine zz ?_
          refine MC.does true (does_store (vs := mdC ((page : Nat) : Int) (-1) (.slice none 0 0) 256) hs rfl rfl rfl rfl (all1 rfl) (by simp)) rfl ?_; intro _ w hs; rw [splice_all (by rfl)] at hs
          refine zz ?_
          refine MC.retR (vs := [.agg (mdC ((page : Nat) : Int) (-1) (.slice none 0 0) 256).toArray, bool false, int 0]) ⟨⟨⟨b8, 0, none⟩, rfl, load_cellA hs rfl⟩, rfl, rfl, trivial⟩ ?_
          exact .inl ⟨(⟨page, none, [], 256⟩, false), s2, hmod _ _ (.inr ⟨(md, false), s2, hm2, rfl, rfl⟩), ⟨hp, fun o h => (by cases h), (by show 256 ≤ 10000000; decide), Nat.zero_le _⟩, .slice none 0 0, rfl, (hs.pickF 9 [2] rfl rfl).sl_nil _ _⟩
        | true =>
          have hmod2 : ∀ (r : Res (Md × Bool)) (s3 : St), (if md.other = none ∧ md.size < 80 then (mendM z.E page { n with kids := n.kids.set i md.page } i).bind fun m => M.pure (m, true) else (renewM z.E page n i md).bind fun m => M.pure (m, true)) s2 r s3 → removeM z.E (hh + 1 + 1) page key s r s3 := fun r s3 hr => hmod r s3 (.inr ⟨(md, true), s2, hm2, hr⟩)
          by_cases hsm : md.other = none ∧ md.size < 80
          · rw [if_pos hsm] at hmod2
            obtain ⟨hmd1, hmd2, hmd3, hmd4⟩ := hmd
            obtain ⟨mpage, mother, mkey, msize⟩ := md
            dsimp only [] at hsm hmd1 hmd2 hmd3 hmd4 hmod2 hs ⊢
            obtain ⟨rfl, hsz⟩ := hsm
            dsimp only [pageI] at hs ⊢
            have hs := hs.pickF 9 [7, 0, 1, 2, 3, 4, 5, 6, 8] rfl rfl
            obtain ⟨bi, ci, spi, hie, hci, hil, hspi, hs⟩ := ints_open hs (by omega)
            injection hie with h1 h2 h3
            injection h1 with h1
            injection h1 with h4 h5
            subst h4; subst h5; subst h3
            refine zz ?_
            refine MC.does true (does_store1 hs rfl rfl rfl (by rw [List.length_append, bufV_length]; omega)) rfl ?_; intro _ w hs
            rw [show 0 + ((i : Nat) : Int).toNat * 1 = i by rw [Int.toNat_natCast]; omega, bufV_put (v := int ((mpage : Nat) : Int)) mpage hiv rfl] at hs
            have hsl : (n.kids.set i mpage).length = n.kids.length := List.length_set
            have hs := ints_shut hs hsl hci (by omega)
            refine zz ?_
            refine MC.la true (la_loadV (vs := [bool n.leaf, .slice qk1 n.keys.length ck1, .slice qv1 n.vals.length cv1, .slice (some ⟨kb, 0, none⟩) n.kids.length ci1]) hs rfl rfl rfl rfl) rfl ?_
            have hs := hs.pickF 9 [3, 5, 6, 7, 0, 1, 2, 4, 8] rfl rfl
            rw [← hsl] at hs
            have hin' : NdIn pool ⟨.slice qk1 n.keys.length ck1, .slice qv1 n.vals.length cv1, .slice (some ⟨kb, 0, none⟩) (n.kids.set i mpage).length ci1, rk, rv⟩ { n with kids := n.kids.set i mpage } := ⟨hin.kl, hin.key, hin.vl, hin.val⟩
            have hfew' : Few { n with kids := [] } := ⟨hfew.keys, hfew.vals, Nat.zero_le _, hfew.k, hfew.v, fun k h => absurd h (List.not_mem_nil)⟩
            have hmn := tmend_spec (tp := tp) (page := page) (i := i) (n := { n with kids := n.kids.set i mpage }) hs hin' hfew' (by show (n.kids.set i mpage).length ≤ 600; rw [hsl]; exact hfew.kids) (fun k h => by
              rcases List.mem_or_eq_of_mem_set h with h | h
              · have := hfew.c k h; omega
              · rw [h]; exact hmd1) (by show (n.kids.set i mpage).length = _; rw [hsl]; exact hkk) hk1 hfle hp
            have e2 : (NdV.val ⟨.slice qk1 n.keys.length ck1, .slice qv1 n.vals.length cv1, .slice (some ⟨kb, 0, none⟩) (n.kids.set i mpage).length ci1, rk, rv⟩ { n with kids := n.kids.set i mpage }) = .agg ([bool n.leaf, .slice qk1 n.keys.length ck1, .slice qv1 n.vals.length cv1, .slice (some ⟨kb, 0, none⟩) n.kids.length ci1]).toArray := by
              show Value.agg _ = _
              rw [hsl]
            rw [e2] at hmn
            refine zz ?_
            refine MC.does true (does_call rfl (hmn)) rfl ?_
            rintro _ w (⟨md2, s3, hm3, hmd2, vk3, rfl, hs⟩ | ⟨e, s3, he, hm3, a2, c2, q2, n2, cc2, d2, rfl, hs⟩)
            · obtain ⟨_, qm2, cm2, rfl, _⟩ := hs.sl_len
              refine zz ?_
              refine MC.does true (does_alloc hs) rfl ?_; rintro _ w ⟨b16, rfl, hs⟩
              refine zz ?_
              refine MC.does true (does_store (vs := mdC ((md2.page : Nat) : Int) (pageI md2.other) (.slice qm2 md2.key.length cm2) ((md2.size : Nat) : Int)) hs rfl rfl rfl rfl (all1 rfl) (by simp)) rfl ?_; intro _ w hs; rw [splice_all (by rfl)] at hs
              refine zz ?_
              refine MC.la true (la_loadV (vs := mdC ((md2.page : Nat) : Int) (pageI md2.other) (.slice qm2 md2.key.length cm2) ((md2.size : Nat) : Int)) hs rfl rfl rfl rfl) rfl ?_
              refine zz ?_
              refine MC.does true (does_store (vs := mdC ((md2.page : Nat) : Int) (pageI md2.other) (.slice qm2 md2.key.length cm2) ((md2.size : Nat) : Int)) hs rfl rfl rfl rfl (all1 rfl) (by simp)) rfl ?_; intro _ w hs; rw [splice_all (by rfl)] at hs
              refine zz ?_
              refine MC.retR (vs := [.agg (mdC ((md2.page : Nat) : Int) (pageI md2.other) (.slice qm2 md2.key.length cm2) ((md2.size : Nat) : Int)).toArray, bool true, int 0]) ⟨⟨⟨b8, 0, none⟩, rfl, load_cellA hs rfl⟩, rfl, rfl, trivial⟩ ?_
              exact .inl ⟨(md2, true), s3, hmod2 _ _ (.inr ⟨md2, s3, hm3, rfl, rfl⟩), hmd2, .slice qm2 md2.key.length cm2, rfl, hs.pickF 7 [1, 2] rfl rfl⟩
            · skip
              refine zz ?_
              refine MC.does true (does_alloc hs) rfl ?_; rintro _ w ⟨b16, rfl, hs⟩
              refine zz ?_
              refine MC.does true (does_store (vs := mdC a2 c2 (.slice q2 n2 cc2) d2) hs rfl rfl rfl rfl (all1 rfl) (by simp)) rfl ?_; intro _ w hs; rw [splice_all (by rfl)] at hs
              refine zz ?_
              refine MC.la true (la_loadV (vs := mdC a2 c2 (.slice q2 n2 cc2) d2) hs rfl rfl rfl rfl) rfl ?_
              refine zz ?_
              refine MC.does true (does_store (vs := mdC a2 c2 (.slice q2 n2 cc2) d2) hs rfl rfl rfl rfl (all1 rfl) (by simp)) rfl ?_; intro _ w hs; rw [splice_all (by rfl)] at hs
              refine zz ?_
              refine MC.retR (vs := [.agg (mdC a2 c2 (.slice q2 n2 cc2) d2).toArray, bool true, int e]) ⟨⟨⟨b8, 0, none⟩, rfl, load_cellA hs rfl⟩, rfl, rfl, trivial⟩ ?_
              exact .inr ⟨e, s3, he, hmod2 _ _ (.inl ⟨e, hm3, rfl⟩), _, _, _, _, _, _, _, rfl, hs.pickF 6 [1] rfl rfl⟩
          · rw [if_neg hsm] at hmod2
            obtain ⟨mpage, mother, mkey, msize⟩ := md
            dsimp only [] at hsm hs hmod2 hmd ⊢
            cases mother with
            | some o =>
              dsimp only [pageI] at hs ⊢
              refine zz ?_
              refine MC.la true (la_loadV (vs := [bool n.leaf, .slice qk1 n.keys.length ck1, .slice qv1 n.vals.length cv1, .slice (some ⟨kb, ko, none⟩) n.kids.length ci1]) hs rfl rfl rfl rfl) rfl ?_
              refine zz ?_
              refine MC.la true (la_loadV (vs := mdC ((mpage : Nat) : Int) ((o : Nat) : Int) (.slice qm mkey.length cm) ((msize : Nat) : Int)) hs rfl rfl rfl rfl) rfl ?_
              have hs := hs.pickF 9 [2, 1, 4, 5, 6, 7, 0, 3, 8] rfl rfl
              have hrn := trenew_spec (tp := tp) (page := page) (i := i) (md := ⟨mpage, some o, mkey, msize⟩) hs hin hfew hiv hfle hmd hp
              refine MC.does true (does_call rfl (hrn)) rfl ?_
              rintro _ w (⟨md2, s3, hm3, hmd2, vk3, rfl, hs⟩ | ⟨e, s3, he, hm3, a2, c2, q2, n2, cc2, d2, rfl, hs⟩)
              · obtain ⟨_, qm2, cm2, rfl, _⟩ := hs.sl_len
                refine zz ?_
                refine MC.does true (does_alloc hs) rfl ?_; rintro _ w ⟨b16, rfl, hs⟩
                refine zz ?_
                refine MC.does true (does_store (vs := mdC ((md2.page : Nat) : Int) (pageI md2.other) (.slice qm2 md2.key.length cm2) ((md2.size : Nat) : Int)) hs rfl rfl rfl rfl (all1 rfl) (by simp)) rfl ?_; intro _ w hs; rw [splice_all (by rfl)] at hs
                refine zz ?_
                refine MC.la true (la_loadV (vs := mdC ((md2.page : Nat) : Int) (pageI md2.other) (.slice qm2 md2.key.length cm2) ((md2.size : Nat) : Int)) hs rfl rfl rfl rfl) rfl ?_
                refine zz ?_
                refine MC.does true (does_store (vs := mdC ((md2.page : Nat) : Int) (pageI md2.other) (.slice qm2 md2.key.length cm2) ((md2.size : Nat) : Int)) hs rfl rfl rfl rfl (all1 rfl) (by simp)) rfl ?_; intro _ w hs; rw [splice_all (by rfl)] at hs
                refine zz ?_
                refine MC.retR (vs := [.agg (mdC ((md2.page : Nat) : Int) (pageI md2.other) (.slice qm2 md2.key.length cm2) ((md2.size : Nat) : Int)).toArray, bool true, int 0]) ⟨⟨⟨b8, 0, none⟩, rfl, load_cellA hs rfl⟩, rfl, rfl, trivial⟩ ?_
                exact .inl ⟨(md2, true), s3, hmod2 _ _ (.inr ⟨md2, s3, hm3, rfl, rfl⟩), hmd2, .slice qm2 md2.key.length cm2, rfl, hs.pickF 6 [1, 2] rfl rfl⟩
              · skip
                refine zz ?_
                refine MC.does true (does_alloc hs) rfl ?_; rintro _ w ⟨b16, rfl, hs⟩
                refine zz ?_
                refine MC.does true (does_store (vs := mdC a2 c2 (.slice q2 n2 cc2) d2) hs rfl rfl rfl rfl (all1 rfl) (by simp)) rfl ?_; intro _ w hs; rw [splice_all (by rfl)] at hs
                refine zz ?_
                refine MC.la true (la_loadV (vs := mdC a2 c2 (.slice q2 n2 cc2) d2) hs rfl rfl rfl rfl) rfl ?_
                refine zz ?_
                refine MC.does true (does_store (vs := mdC a2 c2 (.slice q2 n2 cc2) d2) hs rfl rfl rfl rfl (all1 rfl) (by simp)) rfl ?_; intro _ w hs; rw [splice_all (by rfl)] at hs
                refine zz ?_
                refine MC.retR (vs := [.agg (mdC a2 c2 (.slice q2 n2 cc2) d2).toArray, bool true, int e]) ⟨⟨⟨b8, 0, none⟩, rfl, load_cellA hs rfl⟩, rfl, rfl, trivial⟩ ?_
                exact .inr ⟨e, s3, he, hmod2 _ _ (.inl ⟨e, hm3, rfl⟩), _, _, _, _, _, _, _, rfl, hs.pickF 5 [1] rfl rfl⟩
            | none =>
              have hsz : ¬ msize < 80 := fun h => hsm ⟨rfl, h⟩
              dsimp only [pageI] at hs ⊢
              refine zz ?_
              refine MC.la true (la_loadV (vs := [bool n.leaf, .slice qk1 n.keys.length ck1, .slice qv1 n.vals.length cv1, .slice (some ⟨kb, ko, none⟩) n.kids.length ci1]) hs rfl rfl rfl rfl) rfl ?_
              refine zz ?_
              refine MC.la true (la_loadV (vs := mdC ((mpage : Nat) : Int) (-1) (.slice qm mkey.length cm) ((msize : Nat) : Int)) hs rfl rfl rfl rfl) rfl ?_
              have hs := hs.pickF 9 [2, 1, 4, 5, 6, 7, 0, 3, 8] rfl rfl
              have hrn := trenew_spec (tp := tp) (page := page) (i := i) (md := ⟨mpage, none, mkey, msize⟩) hs hin hfew hiv hfle hmd hp
              refine MC.does true (does_call rfl (hrn)) rfl ?_
              rintro _ w (⟨md2, s3, hm3, hmd2, vk3, rfl, hs⟩ | ⟨e, s3, he, hm3, a2, c2, q2, n2, cc2, d2, rfl, hs⟩)
              · obtain ⟨_, qm2, cm2, rfl, _⟩ := hs.sl_len
                refine zz ?_
                refine MC.does true (does_alloc hs) rfl ?_; rintro _ w ⟨b16, rfl, hs⟩
                refine zz ?_
                refine MC.does true (does_store (vs := mdC ((md2.page : Nat) : Int) (pageI md2.other) (.slice qm2 md2.key.length cm2) ((md2.size : Nat) : Int)) hs rfl rfl rfl rfl (all1 rfl) (by simp)) rfl ?_; intro _ w hs; rw [splice_all (by rfl)] at hs
                refine zz ?_
                refine MC.la true (la_loadV (vs := mdC ((md2.page : Nat) : Int) (pageI md2.other) (.slice qm2 md2.key.length cm2) ((md2.size : Nat) : Int)) hs rfl rfl rfl rfl) rfl ?_
                refine zz ?_
                refine MC.does true (does_store (vs := mdC ((md2.page : Nat) : Int) (pageI md2.other) (.slice qm2 md2.key.length cm2) ((md2.size : Nat) : Int)) hs rfl rfl rfl rfl (all1 rfl) (by simp)) rfl ?_; intro _ w hs; rw [splice_all (by rfl)] at hs
                refine zz ?_
                refine MC.retR (vs := [.agg (mdC ((md2.page : Nat) : Int) (pageI md2.other) (.slice qm2 md2.key.length cm2) ((md2.size : Nat) : Int)).toArray, bool true, int 0]) ⟨⟨⟨b8, 0, none⟩, rfl, load_cellA hs rfl⟩, rfl, rfl, trivial⟩ ?_
                exact .inl ⟨(md2, true), s3, hmod2 _ _ (.inr ⟨md2, s3, hm3, rfl, rfl⟩), hmd2, .slice qm2 md2.key.length cm2, rfl, hs.pickF 6 [1, 2] rfl rfl⟩
              · skip
                refine zz ?_
                refine MC.does true (does_alloc hs) rfl ?_; rintro _ w ⟨b16, rfl, hs⟩
                refine zz ?_
                refine MC.does true (does_store (vs := mdC a2 c2 (.slice q2 n2 cc2) d2) hs rfl rfl rfl rfl (all1 rfl) (by simp)) rfl ?_; intro _ w hs; rw [splice_all (by rfl)] at hs
                refine zz ?_
                refine MC.la true (la_loadV (vs := mdC a2 c2 (.slice q2 n2 cc2) d2) hs rfl rfl rfl rfl) rfl ?_
                refine zz ?_
                refine MC.does true (does_store (vs := mdC a2 c2 (.slice q2 n2 cc2) d2) hs rfl rfl rfl rfl (all1 rfl) (by simp)) rfl ?_; intro _ w hs; rw [splice_all (by rfl)] at hs
                refine zz ?_
                refine MC.retR (vs := [.agg (mdC a2 c2 (.slice q2 n2 cc2) d2).toArray, bool true, int e]) ⟨⟨⟨b8, 0, none⟩, rfl, load_cellA hs rfl⟩, rfl, rfl, trivial⟩ ?_
                exact .inr ⟨e, s3, he, hmod2 _ _ (.inl ⟨e, hm3, rfl⟩), _, _, _, _, _, _, _, rfl, hs.pickF 5 [1] rfl rfl⟩
      · refine zz ?_
        refine MC.does true (does_alloc hs) rfl ?_; rintro _ w ⟨b18, rfl, hs⟩
        refine zz ?_
        refine MC.does true (does_store (vs := mdC a2 c2 (.slice q2 n2 cc2) d2) hs rfl rfl rfl rfl (all1 rfl) (by simp)) rfl ?_; intro _ w hs; rw [splice_all (by rfl)] at hs
        refine zz ?_
        refine MC.pure (f := true) (po_build (ls := [(0, [int ((page : Nat) : Int)]), (1, [int (-1)]), (3, [int 256])]) (out := mdC ((page : Nat) : Int) (-1) (.slice none 0 0) 256) rfl rfl ⟨⟨_, rfl, by simp⟩, ⟨_, rfl, by simp⟩, ⟨_, rfl, by simp⟩, trivial⟩ rfl) rfl ?_
        refine zz ?_
        refine MC.does true (does_store (vs := mdC ((page : Nat) : Int) (-1) (.slice none 0 0) 256) hs rfl rfl rfl rfl (all1 rfl) (by simp)) rfl ?_; intro _ w hs; rw [splice_all (by rfl)] at hs
        refine zz ?_
        refine MC.retR (vs := [.agg (mdC ((page : Nat) : Int) (-1) (.slice none 0 0) 256).toArray, bool t2, int e]) ⟨⟨⟨b8, 0, none⟩, rfl, load_cellA hs rfl⟩, rfl, rfl, trivial⟩ ?_
        exact .inr ⟨e, s2, he, hmod _ _ (.inl ⟨e, hm2, rfl⟩), _, _, _, _, _, _, _, rfl, hs.pickF 8 [1] rfl rfl⟩
    · refine zz ?_
      refine MC.does true (does_alloc hs) rfl ?_; rintro _ w ⟨b11, rfl, hs⟩
      refine zz ?_
      refine MC.does true (does_store (vs := [bool lf, .slice q1 n1 c1, .slice q2 n2 c2, .slice q3 n3 c3]) hs rfl rfl rfl rfl (all1 rfl) (by simp)) rfl ?_; intro _ w hs; rw [splice_all (by rfl)] at hs
      refine zz ?_
      refine MC.pure (f := true) (po_build (ls := []) (out := mdC 0 0 (.slice none 0 0) 0) rfl rfl trivial rfl) rfl ?_
      refine zz ?_
      refine MC.does true (does_store (vs := mdC 0 0 (.slice none 0 0) 0) hs rfl rfl rfl rfl (all1 rfl) (by simp)) rfl ?_; intro _ w hs; rw [splice_all (by rfl)] at hs
      refine zz ?_
      refine MC.retR (vs := [.agg (mdC 0 0 (.slice none 0 0) 0).toArray, bool false, int e]) ⟨⟨⟨b8, 0, none⟩, rfl, load_cellA hs rfl⟩, rfl, rfl, trivial⟩ ?_
      exact .inr ⟨e, s', he, (by unfold removeM; exact .inl ⟨e, hm, rfl⟩), _, _, _, _, _, _, _, rfl, hs.pickF 3 [1] rfl rfl⟩
end
end Go.Proofs.YtjlofdodiaklaaaGreat
