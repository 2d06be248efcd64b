/-
  Values compared: the document's Same | The cache: sweep, room | Roots: sums, numbers out of bytes, a sector's bytes | What may be: value | The cache: what its frames are; how that turns | The cache: room, Get, Leave, Forget
-/
import Derived.Test.YtkccjgllanpebaaGreatDoorYap
import Derived.Laws.StructEq
import Derived.Tactics
import Derived.KernelRfl
import Derived.Test.YtkccjgllanpebaaGreatDoorYaa
import Derived.Test.YtkccjgllanpebaaGreatDoorYam
import Derived.Test.YtkccjgllanpebaaGreatDoorYan
set_option maxHeartbeats 1000000
set_option linter.unusedVariables false
set_option linter.unusedSimpArgs false
namespace Go.Proofs.YtkccjgllanpebaaGreatDoor
open Go Go.Sl Go.Tr Go.Kv
attribute [local irreducible] LooksAt
theorem num_eq (a b c d : Int) (w : World) : (Op.equalIn 10000 29 (.agg #[.int .i64 a, .int .i64 b]) (.agg #[.int .i64 c, .int .i64 d])).run Tryz.prog w = .ok (a == c && b == d) w := by
  have hS : Tryz.prog.underlying 29 = some (.struct (Tryz.prog.fieldsOf 29)) := by kernel_rfl
  have hp : Tryz.prog.stoodInHeld 29 = false := by kernel_rfl
  rw [show (10000 : Nat) = 9998 + 1 + 1 from rfl, run_equalIn_agg (P := Tryz.prog) w (9998 + 1) 29 _ _ hS hp]
  simp only [Program.fieldsOf, Tryz.underlying29]
  have u2 := Tryz.underlying2
  have a2 := Tryz.isAgg2
  have z2 := Tryz.sizeOf2
  have u3 := Tryz.underlying3
  have a3 := Tryz.isAgg3
  have z3 := Tryz.sizeOf3
  go_simp
  by_cases h1 : a = c <;> by_cases h2 : b = d <;> simp [h1, h2]
theorem br_num_ne {a b c d : Int} : Bin Tryz.prog .neq 29 (.agg #[.int .i64 a, .int .i64 b]) (.agg #[.int .i64 c, .int .i64 d]) (.bool (decide (¬ (a = c ∧ b = d)))) := fun x y w => by
  have hm : Tryz.prog.eqGuardType Tryz.prog.depth 29 = false := by kernel_rfl
  rw [Sem.run_bind, run_eqGuard_agg (P := Tryz.prog) w .neq 29 x y _ _ hm]
  simp only [Result.andThen_ok]
  rw [run_neq_struct (P := Tryz.prog), num_eq]
  simp only [Result.andThen_ok]
  by_cases h1 : a = c <;> by_cases h2 : b = d <;> simp [h1, h2]
theorem br_num_eq {a b c d : Int} : Bin Tryz.prog .eql 29 (.agg #[.int .i64 a, .int .i64 b]) (.agg #[.int .i64 c, .int .i64 d]) (.bool (decide (a = c ∧ b = d))) := fun x y w => by
  have hm : Tryz.prog.eqGuardType Tryz.prog.depth 29 = false := by kernel_rfl
  rw [Sem.run_bind, run_eqGuard_agg (P := Tryz.prog) w .eql 29 x y _ _ hm]
  simp only [Result.andThen_ok]
  rw [run_eql_struct (P := Tryz.prog), num_eq]
  simp only [Result.andThen_ok]
  by_cases h1 : a = c <;> by_cases h2 : b = d <;> simp [h1, h2]
theorem dec_false {p : Prop} {i : Decidable p} (h : ¬ p) : bool (decide p) = bool false := by rw [decide_eq_false h]
theorem dec_true {p : Prop} {i : Decidable p} (h : p) : bool (decide p) = bool true := by rw [decide_eq_true h]
theorem V.ext {k m e k' m' e' : Int} {t t' : Bs} {l l' : List V} {ks ks' : List Bs} (h : V.mk k m e t l ks = V.mk k' m' e' t' l' ks') : k = k' ∧ (m = m' ∧ e = e') ∧ t = t' ∧ l = l' ∧ ks = ks' := by cases h; exact ⟨rfl, ⟨rfl, rfl⟩, rfl, rfl, rfl⟩
set_option maxHeartbeats 4000000 in
theorem same_spec : ∀ (a : V) {F : List Assn} {w : World} {b : V} {r r' : List Value} (hs : Sat F w) (ha : VR F a r) (hb : VR F b r'),
    Ret Tryz.prog 11 [.agg r.toArray, .agg r'.toArray] w fun u w' => u = bool (decide (a = b)) ∧ Sat F w' := by
  refine V.ind ?_
  intro k m e t l ks ih F w b r r' hs ha hb
  obtain ⟨k', m', e', t', l', ks'⟩ := b
  obtain ⟨ql, qk, cl, ck, rows, rfl, hcl, hck, hl, hvl, hk, ⟨hbt, hbl, hbk, hbs, -, -, -⟩⟩ := ha.open_
  obtain ⟨ql', qk', cl', ck', rows', rfl, hcl', hck', hl', hvl', hk', ⟨hbt', hbl', hbk', hbs', -, -, -⟩⟩ := hb.open_
  clear ha hb
  unfold hugeN at *
  refine Ret.enter [(true, .agg #[int k, int m, int e, str t, .slice ql l.length cl, .slice qk ks.length ck]), (true, .agg #[int k', int m', int e', str t', .slice ql' l'.length cl', .slice qk' ks'.length ck'])] _ Tryz.func11 rfl Tryz.ntmps11 rfl ?_
  refine zz ?_
  refine MC.does true (does_box hs rfl rfl) rfl ?_; rintro _ w ⟨b2, rfl, hs⟩
  refine zz ?_
  refine MC.does true (does_box hs rfl rfl) rfl ?_; rintro _ w ⟨b3, rfl, hs⟩
  refine zz ?_
  refine MC.part rfl rfl (fun h => ?_) (fun h => ?_)
  · refine zz ?_
    refine MC.ret rfl ?_
    exact ⟨(dec_false fun he => h (V.ext he).1).symm, hs.tail.tail⟩
  obtain rfl : k = k' := Decidable.not_not.1 h
  refine zz ?_
  refine MC.la true (la_loadV hs rfl (vs := [int m, int e]) rfl rfl rfl) rfl ?_
  refine zz ?_
  refine MC.la true (la_loadV hs rfl (vs := [int m', int e']) rfl rfl rfl) rfl ?_
  refine zz ?_
  refine MC.pure (f := false) (po_bin rfl rfl br_num_ne) rfl ?_
  refine zz ?_
  refine MC.part rfl rfl (fun h => ?_) (fun h => ?_)
  · refine zz ?_
    refine MC.ret rfl ?_
    exact ⟨(dec_false fun he => h (V.ext he).2.1).symm, hs.tail.tail⟩
  obtain ⟨rfl, rfl⟩ : m = m' ∧ e = e' := Decidable.not_not.1 h
  refine zz ?_
  refine MC.part rfl rfl (fun h => ?_) (fun h => ?_)
  · refine zz ?_
    refine MC.ret rfl ?_
    exact ⟨(dec_false fun he => h (V.ext he).2.2.1).symm, hs.tail.tail⟩
  obtain rfl : t = t' := Decidable.not_not.1 h
  refine zz ?_
  rcases Nat.decEq l.length l'.length with hll | hll
  · refine zz ?_
    refine MC.ret rfl ?_
    exact ⟨(dec_false fun he => hll (by rw [(V.ext he).2.2.2.1])).symm, hs.tail.tail⟩
  refine zz ?_
  rcases Nat.decEq ks.length ks'.length with hkl | hkl
  · refine zz ?_
    refine MC.ret rfl ?_
    exact ⟨(dec_false fun he => hkl (by rw [(V.ext he).2.2.2.2])).symm, hs.tail.tail⟩
  refine zz ?_
  have hA : ∀ {q : Option Addr} {n c : Nat} {xs : List Value}, RdS F 6 (.slice q n c) n xs → True := fun _ => trivial
  clear hA
  obtain ⟨RA, hRA⟩ : ∃ RA, RA = [int k, int m, int e, str t, .slice ql l.length cl, .slice qk ks.length ck] := ⟨_, rfl⟩
  obtain ⟨RB, hRB⟩ : ∃ RB, RB = [int k, int m, int e, str t, .slice ql' l'.length cl', .slice qk' ks'.length ck'] := ⟨_, rfl⟩
  rw [← hRA, ← hRB] at hs
  refine MC.cutAtS (σ := Unit) 2 (fun _ => [(2, true, ptr b2), (3, true, ptr b3)]) (fun _ w => ks = ks' ∧ Sat (blk b3 RB 32 :: blk b2 RA 32 :: F) w) rfl ?_ ?_
  rotate_left
  · (try dsimp only [List.drop_succ_cons, List.drop_zero, List.take_succ_cons, List.take_zero, List.cons_append, List.nil_append])
    refine MC.loop (σ := Nat) (fun i => [(2, true, ptr b2), (3, true, ptr b3), (5, true, int ((i : Nat) : Int))])
      (fun i w => i ≤ ks.length ∧ ks.take i = ks'.take i ∧ Sat (blk b3 RB 32 :: blk b2 RA 32 :: F) w) (fun i => ks.length - i) 0 zi ⟨Nat.zero_le _, rfl, hs⟩ ?_
    clear hs
    rintro i w ⟨hi, he, hs⟩
    dsimp only [] at hi he hs ⊢
    subst hRA; subst hRB
    rcases Nat.lt_or_ge i ks.length with hlt | hge
    · have hlt' : i < ks'.length := by omega
      obtain ⟨bk, ok, rfl, hrk⟩ := hk.at_ (by omega)
      obtain ⟨bk', ok', rfl, hrk'⟩ := hk'.at_ (by omega)
      refine zz ?_
      refine MC.draw hs [0, 1, 2, 3, 4, 5, 6, 7, 8, 9, 10] (by rfl) ?_; intro w hs
      refine zd ?_
      refine MC.laD true (la_load1_rd hrk hs (j := ((i : Nat) : Int).toNat * 1) rfl (strsV_at hlt)) rfl ?_
      refine zd ?_
      refine MC.laD true (la_load1_rd hrk' hs (j := ((i : Nat) : Int).toNat * 1) rfl (strsV_at hlt')) rfl ?_
      refine zd ?_
      refine MC.cond rfl (fun h => ?_) (fun h => ?_)
      · refine zz ?_
        refine MC.ret rfl ?_
        exact ⟨(dec_false fun he => h (by have := (V.ext he).2.2.2.2; subst this; rfl)).symm, hs.tail.tail⟩
      · refine zz ?_
        exact MC.again (i + 1) zi ⟨hlt, by rw [List.take_succ_eq_append_getElem hlt, List.take_succ_eq_append_getElem hlt', he, Decidable.not_not.1 h], hs⟩ (by show ks.length - (i + 1) < ks.length - i; omega)
    · obtain rfl : i = ks.length := by omega
      rw [List.take_length, hkl, List.take_length] at he
      refine zz ?_
      exact MC.meetS () zi ⟨he, hs⟩
  · clear hs
    rintro _ w ⟨rfl, hs⟩
    dsimp only [List.drop] at hs ⊢
    clear hkl
    refine zz ?_
    refine MC.loop (σ := Nat) (fun i => [(2, true, ptr b2), (3, true, ptr b3), (6, true, int ((i : Nat) : Int))])
      (fun i w => i ≤ l.length ∧ l.take i = l'.take i ∧ Sat (blk b3 RB 32 :: blk b2 RA 32 :: F) w) (fun i => l.length - i) 0 zi ⟨Nat.zero_le _, rfl, hs⟩ ?_
    clear hs
    rintro i w ⟨hi, he, hs⟩
    dsimp only [] at hi he hs ⊢
    subst hRA; subst hRB
    rcases Nat.lt_or_ge i l.length with hlt | hge
    · have hlt' : i < l'.length := by omega
      obtain ⟨bl, ol, rfl, hrl⟩ := hl.at_ (by omega)
      obtain ⟨bl', ol', rfl, hrl'⟩ := hl'.at_ (by omega)
      have hri : i < rows.length := by rw [hvl.len]; exact hlt
      have hri' : i < rows'.length := by rw [hvl'.len]; exact hlt'
      refine zz ?_
      refine MC.draw hs [0, 1, 2, 3, 4, 5, 6, 7, 8, 9, 10, 11] (by rfl) ?_; intro w hs
      refine zd ?_
      refine MC.laD true (la_loadV_rd hrl hs (j := ((i : Nat) : Int).toNat * 6) (vs := rows[i]) rfl (flat_take hvl.six hri) (hvl.six _ (List.getElem_mem hri)) rfl) rfl ?_
      refine zd ?_
      refine MC.laD true (la_loadV_rd hrl' hs (j := ((i : Nat) : Int).toNat * 6) (vs := rows'[i]) rfl (flat_take hvl'.six hri') (hvl'.six _ (List.getElem_mem hri')) rfl) rfl ?_
      refine zd ?_
      have hih := ih l[i] (List.getElem_mem hlt) (b := l'[i]) hs (hvl.row i l[i] rows[i] (List.getElem?_eq_getElem hlt) (List.getElem?_eq_getElem hri)).up (hvl'.row i l'[i] rows'[i] (List.getElem?_eq_getElem hlt') (List.getElem?_eq_getElem hri')).up
      refine MC.doesK true (does_call rfl (hih)) rfl rfl rfl ?_
      rintro _ w ⟨rfl, hs⟩
      refine zh ?_
      by_cases hv : l[i] = l'[i]
      · rw [decide_eq_true hv]
        refine zd ?_
        refine zz ?_
        exact MC.again (i + 1) zi ⟨hlt, by rw [List.take_succ_eq_append_getElem hlt, List.take_succ_eq_append_getElem hlt', he, hv], hs⟩ (by show l.length - (i + 1) < l.length - i; omega)
      · rw [decide_eq_false hv]
        refine zd ?_
        refine zz ?_
        refine MC.ret rfl ?_
        exact ⟨(dec_false fun he => hv (by have := (V.ext he).2.2.2.1; subst this; rfl)).symm, hs.tail.tail⟩
    · obtain rfl : i = l.length := by omega
      rw [List.take_length, hll, List.take_length] at he
      subst he
      refine zz ?_
      refine MC.ret rfl ?_
      exact ⟨(dec_true rfl).symm, hs.tail.tail⟩
end Go.Proofs.YtkccjgllanpebaaGreatDoor

namespace Go.Proofs.YtkccjgllanpebaaGreatDoor
open Go Go.Sl
attribute [local irreducible] LooksAt
def lateOnly (fs fs' : List Frm) : Prop := fs'.length = fs.length ∧ ∀ (j : Nat) (h : j < fs.length) (h' : j < fs'.length), ∃ b, fs'[j] = { fs[j] with late := b }
theorem lateOnly.refl (fs : List Frm) : lateOnly fs fs := ⟨rfl, fun j h h' => ⟨fs[j].late, rfl⟩⟩
theorem lateOnly.set {fs fs' : List Frm} (h : lateOnly fs fs') {i : Nat} (hi : i < fs'.length) (b : Bool) : lateOnly fs (fs'.set i { fs'[i] with late := b }) :=
  ⟨by rw [List.length_set]; exact h.1, fun j hj hj' => by
    have hj2 : j < fs'.length := by rw [List.length_set] at hj'; exact hj'
    obtain ⟨b', hb⟩ := h.2 j hj hj2
    by_cases hij : i = j
    · subst hij
      exact ⟨b, by rw [List.getElem_set_self, hb]⟩
    · exact ⟨b', by rw [List.getElem_set_ne hij, hb]⟩⟩
theorem lateOnly.pins {fs fs' : List Frm} (h : lateOnly fs fs') (h0 : ∀ f ∈ fs, f.pins = 0) : ∀ f ∈ fs', f.pins = 0 := fun f hf => by
  obtain ⟨j, hj, rfl⟩ := List.mem_iff_getElem.1 hf
  have hj2 : j < fs.length := by rw [← h.1]; exact hj
  obtain ⟨b, hb⟩ := h.2 j hj2 hj
  rw [hb]; exact (h0 fs[j] (List.getElem_mem hj2) : fs[j].pins = 0)
theorem pinned_spec {F : List Assn} {G G2 : List Value → List Assn} {q pd bl qc n : Nat} {a b c : Value} {fs : List Frm} {w : World} (hs : Sat F w) [hA : At F q [ptr pd, .slice (some ⟨bl, 0, none⟩) n n, .chan (some qc), a, b, c] 157 G] [hB : At F bl (frsV fs) 206 G2] (hn : fs.length = n) (hn1 : 1 ≤ n) (hp : ∀ f ∈ fs, f.pins = 0) :
    Ret Tryz.prog 174 [ptr q] w fun v w' => v = bool false ∧ Sat F w' := by
  have hn2 : 0 < fs.length := by omega
  have hrow : ((frsV fs).drop (0 + ((0 : Int)).toNat * 5)).take 5 = Frm.row fs[0] := by
    exact rows_get (f := Frm.row) (c := 5) (xs := fs) (fun _ _ => rfl) hn2
  have hp0 := hp _ (List.getElem_mem hn2)
  obtain ⟨f, hf⟩ : ∃ f, fs[0] = f := ⟨_, rfl⟩
  obtain ⟨held, sec, pins, late, qa, ln, cp, bb⟩ := f
  rw [hf] at hrow hp0
  have hp0 : pins = 0 := hp0
  subst hp0
  refine Ret.enter [(true, ptr q)] _ Tryz.func174 rfl Tryz.ntmps174 rfl ?_
  refine zz ?_
  refine MC.loop (σ := Unit) (fun _ => [(0, true, ptr q), (8, true, .slice (some ⟨bl, 0, none⟩) n n), (9, true, int ((n : Nat) : Int)), (10, true, int 0)]) (fun _ w' => w' = w) (fun _ => 0) () zi rfl ?_
  rintro _ w' rfl
  refine zz ?_
  refine MC.la true (la_loadV hs rfl (vs := [bool held, int sec, int 0, bool late, .slice qa ln cp]) hrow rfl rfl) rfl ?_
  refine MC.does true (does_alloc hs) rfl ?_
  rintro _ w ⟨b4, rfl, hs⟩
  refine MC.does true (does_store (vs := [bool held, int sec, int 0, bool late, .slice qa ln cp]) hs rfl rfl rfl rfl (all1 rfl) (by simp)) rfl ?_
  intro _ w hs
  rw [splice_all (by rfl)] at hs
  refine zz ?_
  refine MC.ret rfl ?_
  exact ⟨rfl, hs.tail⟩
theorem frs_set' {fs : List Frm} {i r : Nat} {u : Value} {f' : Frm} (h : i < fs.length) (hr : (Frm.row fs[i]).set r u = Frm.row f') (hr5 : r < 5) : (frsV fs).set (0 + ((i : Nat) : Int).toNat * 5 + r) u = frsV (fs.set i f') := by
  rw [Int.toNat_natCast, Nat.zero_add]; exact frs_set h hr hr5
set_option maxHeartbeats 1000000 in
theorem sweep_spec {F : List Assn} {q pd bl qc n hand : Nat} {b c : Value} {fs : List Frm} {w : World} (hs : Sat (blk q [ptr pd, .slice (some ⟨bl, 0, none⟩) n n, .chan (some qc), int ((hand : Nat) : Int), b, c] 157 :: fblk bl fs :: F) w) (hn : fs.length = n) (hn1 : 1 ≤ n) (hn2 : n ≤ 64) (hh : hand < n) (hp : ∀ f ∈ fs, f.pins = 0) :
    Ret Tryz.prog 168 [ptr q] w fun v w' => ∃ (i hand' : Nat) (fs' : List Frm), i < n ∧ hand' < n ∧ lateOnly fs fs' ∧ v = .tuple #[int ((i : Nat) : Int), bool true] ∧
      Sat (blk q [ptr pd, .slice (some ⟨bl, 0, none⟩) n n, .chan (some qc), int ((hand' : Nat) : Int), b, c] 157 :: fblk bl fs' :: F) w' := by
  have hpi := pinned_spec (q := q) (fs := fs) hs hn hn1 hp
  refine Ret.enter [(true, ptr q)] _ Tryz.func168 rfl Tryz.ntmps168 rfl ?_
  refine zz ?_
  refine zc rfl (hpi) ?_
  rintro _ w ⟨rfl, hs⟩
  refine zz ?_
  refine MC.loop (σ := Nat × List Frm) (fun _ => [(0, true, ptr q)]) (fun x w => x.1 < n ∧ lateOnly fs x.2 ∧ Sat (blk q [ptr pd, .slice (some ⟨bl, 0, none⟩) n n, .chan (some qc), int ((x.1 : Nat) : Int), b, c] 157 :: fblk bl x.2 :: F) w) (fun x => (x.2.filter fun f => f.late).length) (hand, fs) zi ⟨hh, lateOnly.refl fs, hs⟩ ?_
  clear hs hpi
  rintro ⟨i, fs'⟩ w ⟨hi, hlo, hs⟩
  dsimp only [] at hi hlo hs ⊢
  have hl' : fs'.length = n := by rw [hlo.1]; exact hn
  have hp' := hlo.pins hp
  have hm : (((i : Nat) : Int) + 1) % ((n : Nat) : Int) = (((i + 1) % n : Nat) : Int) := by rw [Int.natCast_emod]; rfl
  have hmn : (i + 1) % n < n := Nat.mod_lt _ (by omega)
  have h2 := frs_at (fs := fs') (i := i) (r := 2) (by omega) (by decide)
  have h3 := frs_at (fs := fs') (i := i) (r := 3) (by omega) (by decide)
  have hpi := hp' _ (List.getElem_mem (show i < fs'.length by omega))
  obtain ⟨f, hf⟩ : ∃ f, fs'[i]'(by omega) = f := ⟨_, rfl⟩
  have hf' : fs'[i]'(by omega) = f := hf
  rw [hf] at h2 h3 hpi
  obtain ⟨held, sec, pins, late, qa, ln, cp, bb⟩ := f
  have hpi : pins = 0 := hpi
  subst hpi
  refine zz ?_
  refine MC.draw hs [0,1,2,3,4,5,6,7,8,9,10,11,12,13,14] (by rfl) ?_; intro w hs
  refine zd ?_
  rw [hm]
  refine MC.doesD true (does_store1 hs rfl rfl rfl (by first | decide | (simp; done) | (simp; omega))) rfl rfl rfl rfl ?_; intro _ w hs
  refine zd ?_
  refine zz ?_
  refine MC.la true (la_load1 hs rfl h2) rfl ?_
  refine zz ?_
  refine MC.la false (la_load1 hs rfl h3) rfl ?_
  cases late
  · refine MC.go1 tab rfl rfl ?_
    refine MC.condB (b := false) rfl (fun h => absurd h (by decide)) (fun _ => ?_)
    refine zz ?_
    refine MC.ret rfl ?_
    exact ⟨i, _, fs', hi, hmn, hlo, rfl, hs⟩
  · refine MC.go1 tab rfl rfl ?_
    refine MC.condB (b := true) rfl (fun _ => ?_) (fun h => absurd h (by decide))
    refine zz ?_
    refine MC.does true (does_store1 hs rfl rfl rfl (by rw [frsV_length, Int.toNat_natCast]; omega)) rfl ?_; intro _ w hs
    rw [frs_set' (f' := ⟨held, sec, 0, false, qa, ln, cp, bb⟩) (by omega) (by rw [hf']; rfl) (by decide)] at hs
    refine zz ?_
    refine MC.again ((i + 1) % n, fs'.set i ⟨held, sec, 0, false, qa, ln, cp, bb⟩) zi ⟨hmn, ?_, hs⟩ ?_
    · have := hlo.set (i := i) (by omega) false
      rw [hf'] at this
      exact this
    · show ((fs'.set i _).filter fun f => f.late).length < (fs'.filter fun f => f.late).length
      have e : fs' = fs'.take i ++ fs'[i]'(by omega) :: fs'.drop (i + 1) := by simp
      have e2 : fs'.set i ⟨held, sec, 0, false, qa, ln, cp, bb⟩ = fs'.take i ++ ⟨held, sec, 0, false, qa, ln, cp, bb⟩ :: fs'.drop (i + 1) := by
        rw [List.set_eq_take_append_cons_drop, if_pos (by omega)]
      rw [e2]
      conv => rhs; rw [e]
      rw [hf']
      simp
abbrev u32 (n : Nat) : Value := .int .u32 (n : Int)
theorem equal_spec {F : List Assn} {w : World} {va vb : Value} {l m : List UInt8} (hs : Sat F w) (hl : RdS F 1 va l.length (bytesV l)) (hm : RdS F 1 vb m.length (bytesV m)) :
    Ret Tryz.prog 38 [va, vb] w fun v w' => v = bool (decide (l = m)) ∧ w' = w := by
  obtain ⟨q, c, rfl, hc, _⟩ := hl.shape
  obtain ⟨q', c', rfl, hc', _⟩ := hm.shape
  refine Ret.enter [(true, .slice q l.length c), (true, .slice q' m.length c')] _ Tryz.func38 rfl Tryz.ntmps38 rfl ?_
  refine zz ?_
  refine MC.la true (la_tostr rfl hl hs) rfl ?_
  refine zz ?_
  refine MC.la true (la_tostr rfl hm hs) rfl ?_
  refine zz ?_
  refine MC.ret rfl ?_
  exact ⟨rfl, rfl⟩
end Go.Proofs.YtkccjgllanpebaaGreatDoor

namespace Go.Proofs.YtkccjgllanpebaaGreatDoor
open Go Go.Sl Go.Tr Go.Kv
attribute [local irreducible] LooksAt
structure Tabs (F : List Assn) : Prop where
  utf8 : ∀ w, Sat F w → Lib.Utf8Tabs 2 3 w
  ten : ∀ w, Sat F w → w.cell? ⟨0, 18, none⟩ = some (.int .u64 1000000000000000000)
  pow : ∀ w, Sat F w → Lib.TabIs Tryz.prog w "internal/strconv.uint64pow10" .u64 Lib.pow10Tab
theorem Tabs.up {l F : List Assn} (h : Tabs F) [hs : Suf l F] : Tabs l := ⟨fun w hw => h.utf8 w (Suf.sat hw), fun w hw => h.ten w (Suf.sat hw), fun w hw => h.pow w (Suf.sat hw)⟩
theorem str_size (s : Bs) : (ByteArray.mk s.toArray).size = s.length := by simp [ByteArray.size]
theorem tright_spec {F : List Assn} {w : World} (s : Bs) (hs : Sat F w) (hT : Tabs F) (hl : s.length ≤ 140737488355328) :
    Ret Tryz.prog 93 [str s] w fun v w' => v = bool (Lib.validD s) ∧ Sat F w' := by
  have h := Any.utf8_ValidString Tryz.lays196 ⟨s.toArray⟩ w (by rw [str_size]; omega) (hT.utf8 w hs)
  have hv := Ret.of_below (v := bool (Lib.validD s)) h hs
  refine Ret.enter [(true, str s)] _ Tryz.func93 rfl Tryz.ntmps93 rfl ?_
  refine zz ?_
  refine MC.does false (does_call rfl hv) rfl ?_
  rintro _ w ⟨rfl, hs⟩
  refine zz ?_
  refine MC.ret rfl ?_
  exact ⟨rfl, hs⟩
theorem br_rem10 {P : Program} {t : TypeId} {m : Int} : Bin P .rem t (.int .i64 m) (.int .i64 10) (.int .i64 (m.tmod 10)) := fun _ _ w => by
  simp [eqGuard, binOp, Op.intDiv]
theorem numsize_spec {F : List Assn} {w : World} {m e : Int} (hs : Sat F w) (hm : I64 m) : Ret Tryz.prog 119 [.agg #[int m, int e]] w fun v w' => v = .int .u64 ((sizeN m : Nat) : Int) ∧ Sat F w' := by
  unfold I64 at hm
  refine Ret.enter [(true, .agg #[int m, int e])] _ Tryz.func119 rfl Tryz.ntmps119 rfl ?_
  refine zz ?_
  refine MC.does true (does_box hs rfl rfl) rfl ?_; rintro _ w ⟨b1, rfl, hs⟩
  rcases Int.lt_or_le m 0 with h | h
  · refine zz ?_
    refine MC.ret rfl ?_
    refine ⟨?_, hs.tail⟩
    show Value.int .u64 (IntKind.u64.wrap (0 - IntKind.u64.wrap m)) = _
    rw [wrap_u64, wrap_u64]
    unfold sizeN
    congr 1
    omega
  · refine zz ?_
    refine MC.ret rfl ?_
    refine ⟨?_, hs.tail⟩
    show Value.int .u64 (IntKind.u64.wrap m) = _
    rw [wrap_u64]
    unfold sizeN
    congr 1
    omega
theorem nzero_spec {F : List Assn} {w : World} (hs : Sat F w) : Ret Tryz.prog 125 [] w fun v w' => v = .agg #[int 0, int 0] ∧ Sat F w' := by
  refine Ret.enter [] _ Tryz.func125 rfl Tryz.ntmps125 rfl ?_
  refine zz ?_
  refine MC.does true (does_alloc hs) rfl ?_; rintro _ w ⟨b0, rfl, hs⟩
  refine zz ?_
  refine MC.pure (f := true) (po_build (ls := []) (out := [int 0, int 0]) rfl rfl trivial rfl) rfl ?_
  refine zz ?_
  refine MC.does true (does_store (vs := [int 0, int 0]) hs rfl rfl rfl rfl (all1 rfl) (by simp)) rfl ?_; intro _ w hs; rw [splice_all (by rfl)] at hs
  refine zz ?_
  exact MC.retC rfl hs rfl (vs := [int 0, int 0]) (by rfl) (by rfl) (by rfl) ⟨rfl, hs.tail⟩
def numB (m e : Int) : Bool := if m = 0 then decide (e = 0) else decide (sizeN m < 1000000000000000000) && (decide (m.tmod 10 ≠ 0) && (decide (-64 ≤ e) && decide (e ≤ 64)))
theorem num_ok {m e : Int} (h : numB m e = true) : okN m e := by
  unfold numB at h
  refine ⟨fun h0 => ?_, fun h0 => ?_⟩
  · rw [if_pos h0] at h; exact of_decide_eq_true h
  · rw [if_neg h0] at h
    simp only [Bool.and_eq_true, decide_eq_true_eq] at h
    obtain ⟨h1, h2, h3, h4⟩ := h
    refine ⟨h1, fun hm => h2 ?_, h3, h4⟩
    have : (10 : Int) ∣ m := Int.dvd_of_emod_eq_zero hm
    exact Int.tmod_eq_zero_of_dvd this
theorem rd_one {F : List Assn} {b o : Nat} {v : Value} (h : ∀ w, Sat F w → w.cell? ⟨b, o, none⟩ = some v) : Rd F b o [v] := fun w hw j u hj => by
  cases j with
  | zero => simp at hj; subst hj; exact h w hw
  | succ j => simp at hj
theorem nright_spec {F : List Assn} {w : World} {m e : Int} (hs : Sat F w) (hT : Tabs F) (hm : I64 m) (he : I64 e) : Ret Tryz.prog 92 [.agg #[int m, int e]] w fun v w' => v = bool (numB m e) ∧ Sat F w' := by
  have hsz : ∀ {w : World} {G : List Assn}, Sat G w → _ := fun {w} {G} hs => numsize_spec (m := m) (e := e) (F := G) (w := w) hs hm
  unfold I64 at hm he
  refine Ret.enter [(true, .agg #[int m, int e])] _ Tryz.func92 rfl Tryz.ntmps92 rfl ?_
  refine zz ?_
  refine MC.does true (does_box hs rfl rfl) rfl ?_; rintro _ w ⟨b1, rfl, hs⟩
  unfold numB
  by_cases h0 : m = 0
  · rw [if_pos h0]
    subst h0
    refine zz ?_
    refine MC.draw hs [0, 1, 2, 3] (by rfl) ?_; intro w hs
    refine zd ?_
    refine MC.laD true (la_loadV hs rfl (vs := [int 0, int e]) rfl rfl rfl) rfl ?_
    refine MC.doesK true (does_call rfl (nzero_spec hs)) rfl rfl rfl ?_
    rintro _ w ⟨rfl, hs⟩
    refine zh ?_
    refine MC.pure (f := false) (po_bin rfl rfl br_num_eq) rfl ?_
    refine zd ?_
    refine MC.ret rfl ?_
    exact ⟨congrArg Value.bool (decide_eq_decide.2 ⟨fun h => h.2, fun h => ⟨rfl, h⟩⟩), hs.tail⟩
  · rw [if_neg h0]
    have hrd : Rd F 0 18 [.int .u64 1000000000000000000] := rd_one hT.ten
    refine zz ?_
    refine MC.draw hs [0, 2, 3, 1, 4, 5, 6, 7, 8, 9, 10, 11, 12, 13, 14, 15, 16, 17, 18, 19, 20, 21] (by rfl) ?_; intro w hs
    refine zd ?_
    refine MC.laD true (la_loadV hs rfl (vs := [int m, int e]) rfl rfl rfl) rfl ?_
    refine zd ?_
    refine MC.laD true (la_load1_rd hrd hs (j := 0) rfl rfl) rfl ?_
    refine zd ?_
    refine MC.doesK true (does_call rfl (hsz hs)) rfl rfl rfl ?_
    rintro _ w ⟨rfl, hs⟩
    refine zh ?_
    by_cases h1 : sizeN m < 1000000000000000000
    · rw [decide_eq_true h1, Bool.true_and]
      refine zd ?_
      refine MC.run1 tab 1 rfl rfl True.intro ?_
      obtain ⟨q, hq⟩ : ∃ q, m.tmod 10 = q := ⟨_, rfl⟩
      refine MC.pure (f := true) (v := .int .i64 q) (po_bin rfl rfl (by rw [← hq]; exact br_rem10)) rfl ?_
      rw [hq]
      by_cases h2 : q = 0
      · rw [decide_eq_false (not_not_intro h2), Bool.false_and]
        refine zd ?_
        refine MC.ret rfl ?_
        exact ⟨rfl, hs.tail⟩
      · rw [decide_eq_true h2, Bool.true_and]
        by_cases h3 : -64 ≤ e
        · rw [decide_eq_true h3, Bool.true_and]
          refine zd ?_
          refine MC.ret rfl ?_
          exact ⟨rfl, hs.tail⟩
        · rw [decide_eq_false h3, Bool.false_and]
          refine zd ?_
          refine MC.ret rfl ?_
          exact ⟨rfl, hs.tail⟩
    · rw [decide_eq_false h1, Bool.false_and]
      refine zd ?_
      refine MC.ret rfl ?_
      exact ⟨rfl, hs.tail⟩
end Go.Proofs.YtkccjgllanpebaaGreatDoor

namespace Go.Proofs.YtkccjgllanpebaaGreatDoor
open Go Go.Sl
attribute [local irreducible] LooksAt
abbrev Bq := List UInt8
theorem few_of_nodup : ∀ (n : Nat) (l : List Nat), l.Nodup → (∀ x ∈ l, x < n) → l.length ≤ n
  | 0, l, _, h => by
    cases l with
    | nil => exact Nat.le_refl _
    | cons a l => exact absurd (h a List.mem_cons_self) (by omega)
  | n + 1, l, hd, h => by
    have ih := few_of_nodup n (l.erase n) (hd.erase n) fun x hx => by
      have h1 := h x (List.mem_of_mem_erase hx)
      have h2 : x ≠ n := fun e => by subst e; exact (List.Nodup.not_mem_erase hd) hx
      omega
    have := List.length_erase (a := n) (l := l)
    split at this <;> omega
structure CaOk (fs : List Frm) (buf : List Nat) (pool : List (Value × Bq)) (sec : Nat → Bq) (H : Nat → Prop) (pin : Option Nat) : Prop where
  nodup : buf.Nodup
  free : ∀ i, i ∈ buf ↔ ∃ h : i < fs.length, fs[i].held = false
  pins : ∀ f ∈ fs, f.pins = if f.held = true ∧ pin.map Int.ofNat = some f.sec then 1 else 0
  pinned : ∀ k, pin = some k → ∃ f ∈ fs, f.held = true ∧ f.sec = ((k : Nat) : Int)
  held : ∀ f ∈ fs, f.held = true → ∃ k : Nat, f.sec = ((k : Nat) : Int) ∧ H k ∧ f.b = sec k ∧ (f.v, f.b) ∈ pool
  once : ∀ (i j : Nat) (hi : i < fs.length) (hj : j < fs.length), fs[i].held = true → fs[j].held = true → fs[i].sec = fs[j].sec → i = j
structure CaHole (fs : List Frm) (buf : List Nat) (pool : List (Value × Bq)) (sec : Nat → Bq) (H : Nat → Prop) (i : Nat) : Prop where
  nodup : buf.Nodup
  free : ∀ j, j ∈ buf ↔ j ≠ i ∧ ∃ h : j < fs.length, fs[j].held = false
  pins : ∀ f ∈ fs, f.pins = 0
  held : ∀ (j : Nat) (h : j < fs.length), j ≠ i → fs[j].held = true → ∃ k : Nat, fs[j].sec = ((k : Nat) : Int) ∧ H k ∧ fs[j].b = sec k ∧ (fs[j].v, fs[j].b) ∈ pool
  once : ∀ (j l : Nat) (hj : j < fs.length) (hl : l < fs.length), j ≠ i → l ≠ i → fs[j].held = true → fs[l].held = true → fs[j].sec = fs[l].sec → j = l
  not : ∀ (k : Nat), (∀ f ∈ fs, f.held = true → f.sec ≠ ((k : Nat) : Int)) → ∀ (j : Nat) (h : j < fs.length), fs[j].held = true → fs[j].sec ≠ ((k : Nat) : Int)
section
variable {fs fs' : List Frm} {buf buf' : List Nat} {pool : List (Value × Bq)} {sec sec' : Nat → Bq} {H H' : Nat → Prop} {pin : Option Nat} {i k : Nat}
theorem CaOk.pins0 (h : CaOk fs buf pool sec H none) : ∀ f ∈ fs, f.pins = 0 := fun f hf => by rw [h.pins f hf, if_neg (by simp)]
theorem mem_set_iff {f g : Frm} (hg : g ∈ fs.set i f) : g = f ∨ ∃ (j : Nat) (h : j < fs.length), j ≠ i ∧ g = fs[j] := by
  obtain ⟨j, hj, rfl⟩ := List.mem_iff_getElem.1 hg
  rw [List.length_set] at hj
  by_cases hij : i = j
  · subst hij; left; rw [List.getElem_set_self]
  · right; exact ⟨j, hj, fun e => hij e.symm, by rw [List.getElem_set_ne hij]⟩
theorem getElem_set' {f : Frm} {j : Nat} (hj : j < (fs.set i f).length) : (fs.set i f)[j] = if i = j then f else fs[j]'(by rw [List.length_set] at hj; exact hj) := by
  rw [List.getElem_set]
theorem CaOk.hit (h : CaOk fs buf pool sec H none) (hi : i < fs.length) (hh : fs[i].held = true) (hk : fs[i].sec = ((k : Nat) : Int)) : CaOk (fs.set i { fs[i] with pins := 1, late := true }) buf pool sec H (some k) where
  nodup := h.nodup
  free j := by
    rw [h.free j]
    constructor
    · rintro ⟨hj, hf⟩
      refine ⟨by rw [List.length_set]; exact hj, ?_⟩
      rw [getElem_set']
      split
      · rename_i e; subst e; exact hf
      · exact hf
    · rintro ⟨hj, hf⟩
      have hj' : j < fs.length := by rw [List.length_set] at hj; exact hj
      refine ⟨hj', ?_⟩
      rw [getElem_set'] at hf
      split at hf
      · rename_i e; subst e; exact hf
      · exact hf
  pins g hg := by
    rcases mem_set_iff hg with rfl | ⟨j, hj, hji, rfl⟩
    · have : (Option.map Int.ofNat (some k)) = some fs[i].sec := by rw [hk]; rfl
      show (1 : Int) = if fs[i].held = true ∧ Option.map Int.ofNat (some k) = some fs[i].sec then 1 else 0
      rw [if_pos ⟨hh, this⟩]
    · rw [h.pins0 _ (List.getElem_mem hj), if_neg]
      rintro ⟨h1, h2⟩
      refine hji (h.once j i hj hi h1 hh ?_)
      rw [hk]
      have : some ((k : Nat) : Int) = some fs[j].sec := h2
      exact (Option.some.inj this).symm
  pinned k' hk' := by
    obtain rfl : k = k' := Option.some.inj hk'
    exact ⟨_, List.mem_iff_getElem.2 ⟨i, by rw [List.length_set]; exact hi, List.getElem_set_self _⟩, hh, hk⟩
  held g hg hgh := by
    rcases mem_set_iff hg with rfl | ⟨j, hj, hji, rfl⟩
    · exact h.held fs[i] (List.getElem_mem hi) hh
    · exact h.held fs[j] (List.getElem_mem hj) hgh
  once a b ha hb h1 h2 h3 := by
    have ha' : a < fs.length := by rw [List.length_set] at ha; exact ha
    have hb' : b < fs.length := by rw [List.length_set] at hb; exact hb
    have key : ∀ j (hj : j < (fs.set i { fs[i] with pins := 1, late := true }).length) (hj' : j < fs.length), (fs.set i { fs[i] with pins := 1, late := true })[j].held = fs[j].held ∧ (fs.set i { fs[i] with pins := 1, late := true })[j].sec = fs[j].sec := fun j hj hj' => by
      rw [getElem_set']
      split
      · rename_i e; subst e; exact ⟨rfl, rfl⟩
      · exact ⟨rfl, rfl⟩
    rw [(key a ha ha').1] at h1
    rw [(key b hb hb').1] at h2
    rw [(key a ha ha').2, (key b hb hb').2] at h3
    exact h.once a b ha' hb' h1 h2 h3
theorem CaOk.leave (h : CaOk fs buf pool sec H (some k)) (hi : i < fs.length) (hh : fs[i].held = true) (hk : fs[i].sec = ((k : Nat) : Int)) : fs[i].pins = 1 ∧ CaOk (fs.set i { fs[i] with pins := 0 }) buf pool sec H none := by
  have hp : ∀ (j : Nat) (hj : j < fs.length), j ≠ i → fs[j].pins = 0 := fun j hj hji => by
    rw [h.pins _ (List.getElem_mem hj), if_neg]
    rintro ⟨h1, h2⟩
    refine hji (h.once j i hj hi h1 hh ?_)
    rw [hk]
    have : some ((k : Nat) : Int) = some fs[j].sec := h2
    exact (Option.some.inj this).symm
  have key : ∀ j (hj : j < (fs.set i { fs[i] with pins := 0 }).length) (hj' : j < fs.length), (fs.set i { fs[i] with pins := 0 })[j].held = fs[j].held ∧ (fs.set i { fs[i] with pins := 0 })[j].sec = fs[j].sec := fun j hj hj' => by
    rw [getElem_set']
    split
    · rename_i e; subst e; exact ⟨rfl, rfl⟩
    · exact ⟨rfl, rfl⟩
  refine ⟨?_, ?_⟩
  · rw [h.pins _ (List.getElem_mem hi), if_pos ⟨hh, by rw [hk]; rfl⟩]
  · exact {
      nodup := h.nodup
      free := fun j => by
        rw [h.free j]
        constructor
        · rintro ⟨hj, hf⟩
          exact ⟨by rw [List.length_set]; exact hj, by rw [(key j _ hj).1]; exact hf⟩
        · rintro ⟨hj, hf⟩
          have hj' : j < fs.length := by rw [List.length_set] at hj; exact hj
          exact ⟨hj', by rw [(key j hj hj').1] at hf; exact hf⟩
      pins := fun g hg => by
        rw [if_neg (by simp)]
        rcases mem_set_iff hg with rfl | ⟨j, hj, hji, rfl⟩
        · rfl
        · exact hp j hj hji
      pinned := fun k' hk' => by cases hk'
      held := fun g hg hgh => by
        rcases mem_set_iff hg with rfl | ⟨j, hj, hji, rfl⟩
        · exact h.held fs[i] (List.getElem_mem hi) hh
        · exact h.held fs[j] (List.getElem_mem hj) hgh
      once := fun a b ha hb h1 h2 h3 => by
        have ha' : a < fs.length := by rw [List.length_set] at ha; exact ha
        have hb' : b < fs.length := by rw [List.length_set] at hb; exact hb
        rw [(key a ha ha').1] at h1
        rw [(key b hb hb').1] at h2
        rw [(key a ha ha').2, (key b hb hb').2] at h3
        exact h.once a b ha' hb' h1 h2 h3 }
theorem CaOk.holeA (h : CaOk fs (i :: buf) pool sec H none) : CaHole fs buf pool sec H i where
  nodup := (List.nodup_cons.1 h.nodup).2
  free j := by
    have hn := (List.nodup_cons.1 h.nodup).1
    constructor
    · intro hj
      exact ⟨fun e => by subst e; exact hn hj, (h.free j).1 (List.mem_cons_of_mem _ hj)⟩
    · rintro ⟨hji, hf⟩
      rcases List.mem_cons.1 ((h.free j).2 hf) with e | e
      · exact absurd e hji
      · exact e
  pins := h.pins0
  held j hj _ hh := h.held fs[j] (List.getElem_mem hj) hh
  once a b ha hb _ _ h1 h2 h3 := h.once a b ha hb h1 h2 h3
  not k hk j hj := hk fs[j] (List.getElem_mem hj)
theorem CaOk.holeB (h : CaOk fs [] pool sec H none) (hl : lateOnly fs fs') : CaHole fs' [] pool sec H i := by
  have key : ∀ j (hj : j < fs'.length), ∃ hj' : j < fs.length, fs'[j].held = fs[j].held ∧ fs'[j].sec = fs[j].sec ∧ fs'[j].b = fs[j].b ∧ fs'[j].v = fs[j].v := fun j hj => by
    have hj' : j < fs.length := by rw [← hl.1]; exact hj
    obtain ⟨b, hb⟩ := hl.2 j hj' hj
    exact ⟨hj', by rw [hb], by rw [hb], by rw [hb], by rw [hb]⟩
  exact {
    nodup := List.nodup_nil
    free := fun j => ⟨fun hj => (by cases hj), fun ⟨_, hj, hf⟩ => by
      obtain ⟨hj', e1, _⟩ := key j hj
      rw [e1] at hf
      exact absurd ((h.free j).2 ⟨hj', hf⟩) (by simp)⟩
    pins := hl.pins h.pins0
    held := fun j hj _ hh => by
      obtain ⟨hj', e1, e2, e3, e4⟩ := key j hj
      rw [e1] at hh
      rw [e2, e3, e4]
      exact h.held fs[j] (List.getElem_mem hj') hh
    once := fun a b ha hb _ _ h1 h2 h3 => by
      obtain ⟨ha', e1, e2, _⟩ := key a ha
      obtain ⟨hb', e3, e4, _⟩ := key b hb
      rw [e1] at h1
      rw [e3] at h2
      rw [e2, e4] at h3
      exact h.once a b ha' hb' h1 h2 h3
    not := fun k hk j hj => hk fs'[j] (List.getElem_mem hj) }
theorem CaHole.room (h : CaHole fs buf pool sec H i) (hi : i < fs.length) : buf.length < fs.length := by
  have hn : i ∉ buf := fun hm => ((h.free i).1 hm).1 rfl
  have := few_of_nodup fs.length (i :: buf) (List.nodup_cons.2 ⟨hn, h.nodup⟩) fun x hx => by
    rcases List.mem_cons.1 hx with rfl | hx
    · exact hi
    · obtain ⟨_, h', _⟩ := (h.free x).1 hx; exact h'
  rw [List.length_cons] at this
  omega
def Frm.zero : Frm := ⟨false, 0, 0, false, none, 0, 0, []⟩
theorem CaHole.fail (h : CaHole fs buf pool sec H i) (hi : i < fs.length) : CaOk (fs.set i Frm.zero) (buf ++ [i]) pool sec H none where
  nodup := by
    have hn : i ∉ buf := fun hm => ((h.free i).1 hm).1 rfl
    rw [List.nodup_append]
    exact ⟨h.nodup, by simp, fun a ha b hb e => by simp at hb; subst hb; subst e; exact hn ha⟩
  free j := by
    rw [List.mem_append, List.mem_singleton]
    constructor
    · rintro (hj | rfl)
      · obtain ⟨hji, hj', hf⟩ := (h.free j).1 hj
        exact ⟨by rw [List.length_set]; exact hj', by rw [getElem_set', if_neg (fun e => hji e.symm)]; exact hf⟩
      · exact ⟨by rw [List.length_set]; exact hi, by rw [getElem_set', if_pos rfl]; rfl⟩
    · rintro ⟨hj, hf⟩
      by_cases hji : j = i
      · exact .inr hji
      · left
        rw [getElem_set', if_neg (fun e => hji e.symm)] at hf
        exact (h.free j).2 ⟨hji, by rw [List.length_set] at hj; exact hj, hf⟩
  pins g hg := by
    rw [if_neg (by simp)]
    rcases mem_set_iff hg with rfl | ⟨j, hj, hji, rfl⟩
    · rfl
    · exact h.pins _ (List.getElem_mem hj)
  pinned k hk := by cases hk
  held g hg hgh := by
    rcases mem_set_iff hg with rfl | ⟨j, hj, hji, rfl⟩
    · cases hgh
    · exact h.held j hj hji hgh
  once a b ha hb h1 h2 h3 := by
    have ha' : a < fs.length := by rw [List.length_set] at ha; exact ha
    have hb' : b < fs.length := by rw [List.length_set] at hb; exact hb
    rw [getElem_set'] at h1 h2 h3
    rw [getElem_set'] at h3
    split at h1
    · cases h1
    · split at h2
      · cases h2
      · rename_i e1 e2
        rw [if_neg e1, if_neg e2] at h3
        exact h.once a b ha' hb' (fun e => e1 e.symm) (fun e => e2 e.symm) h1 h2 h3
theorem CaHole.fill (h : CaHole fs buf pool sec H i) (hi : i < fs.length) (hk : H k) (hno : ∀ (j : Nat) (h : j < fs.length), fs[j].held = true → fs[j].sec ≠ ((k : Nat) : Int)) (qa : Option Addr) (ln cp : Nat) :
    CaOk (fs.set i ⟨true, ((k : Nat) : Int), 1, true, qa, ln, cp, sec k⟩) buf (pool ++ [(.slice qa ln cp, sec k)]) sec H (some k) where
  nodup := h.nodup
  free j := by
    constructor
    · intro hj
      obtain ⟨hji, hj', hf⟩ := (h.free j).1 hj
      exact ⟨by rw [List.length_set]; exact hj', by rw [getElem_set', if_neg (fun e => hji e.symm)]; exact hf⟩
    · rintro ⟨hj, hf⟩
      rw [getElem_set'] at hf
      split at hf
      · cases hf
      · rename_i e
        exact (h.free j).2 ⟨fun e' => e e'.symm, by rw [List.length_set] at hj; exact hj, hf⟩
  pins g hg := by
    rcases mem_set_iff hg with rfl | ⟨j, hj, hji, rfl⟩
    · rw [if_pos ⟨rfl, rfl⟩]
    · rw [h.pins _ (List.getElem_mem hj), if_neg]
      rintro ⟨h1, h2⟩
      have : some ((k : Nat) : Int) = some fs[j].sec := h2
      exact hno j hj h1 (Option.some.inj this).symm
  pinned k' hk' := by
    obtain rfl : k = k' := Option.some.inj hk'
    exact ⟨_, List.mem_iff_getElem.2 ⟨i, by rw [List.length_set]; exact hi, List.getElem_set_self _⟩, rfl, rfl⟩
  held g hg hgh := by
    rcases mem_set_iff hg with rfl | ⟨j, hj, hji, rfl⟩
    · exact ⟨k, rfl, hk, rfl, List.mem_append_right _ (by simp [Frm.v])⟩
    · obtain ⟨k', h1, h2, h3, h4⟩ := h.held j hj hji hgh
      exact ⟨k', h1, h2, h3, List.mem_append_left _ h4⟩
  once a b ha hb h1 h2 h3 := by
    have ha' : a < fs.length := by rw [List.length_set] at ha; exact ha
    have hb' : b < fs.length := by rw [List.length_set] at hb; exact hb
    rw [getElem_set'] at h1 h2 h3
    rw [getElem_set'] at h3
    by_cases e1 : i = a
    · by_cases e2 : i = b
      · omega
      · rw [if_neg e2] at h2 h3
        rw [if_pos e1] at h3
        exact absurd h3.symm (hno b hb' h2)
    · rw [if_neg e1] at h1 h3
      by_cases e2 : i = b
      · rw [if_pos e2] at h3
        exact absurd h3 (hno a ha' h1)
      · rw [if_neg e2] at h2 h3
        exact h.once a b ha' hb' (fun e => e1 e.symm) (fun e => e2 e.symm) h1 h2 h3
theorem CaOk.less (h : CaOk fs buf pool sec H pin) (hH : ∀ f ∈ fs, f.held = true → ∀ k : Nat, f.sec = ((k : Nat) : Int) → H k → H' k ∧ sec k = sec' k) : CaOk fs buf pool sec' H' pin :=
  ⟨h.nodup, h.free, h.pins, h.pinned, fun f hf hh => by
    obtain ⟨k, h1, h2, h3, h4⟩ := h.held f hf hh
    obtain ⟨h5, h6⟩ := hH f hf hh k h1 h2
    exact ⟨k, h1, h5, by rw [h3, h6], h4⟩, h.once⟩
theorem CaOk.new (n : Nat) : CaOk (List.replicate n Frm.zero) (List.range n) [] sec H none where
  nodup := List.nodup_range
  free i := by simp [Frm.zero]
  pins f hf := by rw [List.eq_of_mem_replicate hf, if_neg (by simp)]; rfl
  pinned k hk := by cases hk
  held f hf hh := by rw [List.eq_of_mem_replicate hf] at hh; cases hh
  once a b ha hb h1 := by rw [List.getElem_replicate] at h1; cases h1
end
def bufV (l : List Nat) : List Value := l.map fun i => int ((i : Nat) : Int)
@[simp] theorem bufV_length (l : List Nat) : (bufV l).length = l.length := by simp [bufV]
abbrev chn (qc n : Nat) (buf : List Nat) (sn rn : Nat) : Assn := obj qc (.chan n (bufV buf).toArray false sn rn false)
theorem room_spec {F : List Assn} {q pd bl qc n hand sn rn : Nat} {hits misses : Int} {fs : List Frm} {buf : List Nat} {w : World} (hs : Sat (chn qc n buf sn rn :: cblk q pd bl n qc ((hand : Nat) : Int) hits misses :: fblk bl fs :: F) w) (hn : fs.length = n) (hn1 : 1 ≤ n) (hn2 : n ≤ 64) (hh : hand < n) (hp : ∀ f ∈ fs, f.pins = 0) (hb : ∀ i ∈ buf, i < n) :
    Ret Tryz.prog 154 [ptr q] w fun v w' => ∃ (i hand' : Nat) (fs' : List Frm) (buf' : List Nat) (rn' : Nat), i < n ∧ hand' < n ∧ v = .tuple #[int ((i : Nat) : Int), bool true] ∧ ((buf = i :: buf' ∧ fs' = fs) ∨ (buf = [] ∧ buf' = [] ∧ lateOnly fs fs')) ∧
      Sat (chn qc n buf' sn rn' :: cblk q pd bl n qc ((hand' : Nat) : Int) hits misses :: fblk bl fs' :: F) w' := by
  refine Ret.enter [(true, ptr q)] _ Tryz.func154 rfl Tryz.ntmps154 rfl ?_
  refine zz ?_
  refine MC.selectRecv ⟨rfl, rfl, rfl⟩ hs rfl rfl ?_ ?_
  · intro v0 bv hbv w hs
    obtain ⟨i, buf', rfl⟩ : ∃ i buf', buf = i :: buf' := by cases buf with
      | nil => simp [bufV] at hbv
      | cons i b => exact ⟨i, b, rfl⟩
    have e1 : v0 = int ((i : Nat) : Int) := by simp [bufV] at hbv; exact hbv.1.symm
    have e2 : bv = bufV buf' := by simp [bufV] at hbv; rw [← hbv.2]; rfl
    subst e1; subst e2
    refine zz ?_
    refine MC.ret rfl ?_
    exact ⟨i, hand, fs, buf', _, hb i List.mem_cons_self, hh, rfl, .inl ⟨rfl, rfl⟩, hs⟩
  · intro hbn
    have hb0 : buf = [] := by cases buf with
      | nil => rfl
      | cons i b => simp [bufV] at hbn
    subst hb0
    have hsw := sweep_spec (q := q) (hs.pickF 3 [1, 2, 0] rfl rfl) hn hn1 hn2 hh hp
    refine zz ?_
    refine zc rfl (hsw) ?_
    rintro _ w ⟨i, hand', fs', hi, hh', hl, rfl, hs⟩
    refine zz ?_
    refine MC.ret rfl ?_
    exact ⟨i, hand', fs', [], _, hi, hh', rfl, .inr ⟨rfl, rfl, hl⟩, hs.pickF 3 [2, 0, 1] rfl rfl⟩
def devr (pd : Nat) (D : Dev) : Assn := Sl.ex fun rd : Int => dev pd { D with reads := rd }
structure Cst where
  bl : Nat
  qc : Nat
  hand : Nat
  hits : Int
  misses : Int
  fs : List Frm
  buf : List Nat
  sn : Nat
  rn : Nat
  pool : List (Value × Bq)
structure Cst.ok (x : Cst) (sec : Nat → Bq) (H : Nat → Prop) (pin : Option Nat) : Prop where
  ca : CaOk x.fs x.buf x.pool sec H pin
  hand : x.hand < x.fs.length
  few : x.fs.length ≤ 64
def cach (q pd : Nat) (sec : Nat → Bq) (H : Nat → Prop) (pin : Option Nat) : Assn := Sl.ex fun x : {x : Cst // x.ok sec H pin} => star [chn x.1.qc x.1.fs.length x.1.buf x.1.sn x.1.rn, cblk q pd x.1.bl x.1.fs.length x.1.qc ((x.1.hand : Nat) : Int) x.1.hits x.1.misses, fblk x.1.bl x.1.fs, bods 5 x.1.pool]
section
variable {F : List Assn} {q pd : Nat} {sec : Nat → Bq} {H : Nat → Prop} {pin : Option Nat} {w : World}
theorem cach_open (hs : Sat (cach q pd sec H pin :: F) w) : ∃ x : Cst, x.ok sec H pin ∧ Sat (chn x.qc x.fs.length x.buf x.sn x.rn :: cblk q pd x.bl x.fs.length x.qc ((x.hand : Nat) : Int) x.hits x.misses :: fblk x.bl x.fs :: bods 5 x.pool :: F) w := by
  obtain ⟨x, hs⟩ := Sat.ex_iff.1 hs
  exact ⟨x.1, x.2, hs.unstar⟩
theorem cach_shut {x : Cst} (hx : x.ok sec H pin) (hs : Sat (chn x.qc x.fs.length x.buf x.sn x.rn :: cblk q pd x.bl x.fs.length x.qc ((x.hand : Nat) : Int) x.hits x.misses :: fblk x.bl x.fs :: bods 5 x.pool :: F) w) : Sat (cach q pd sec H pin :: F) w :=
  Sat.ex_iff.2 ⟨⟨x, hx⟩, Sat.restar (l := [_, _, _, _]) hs⟩
end
theorem leave_spec {F : List Assn} {q pd k : Nat} {sec : Nat → Bq} {H : Nat → Prop} {w : World} (hs : Sat (cach q pd sec H (some k) :: F) w) :
    Ret Tryz.prog 137 [ptr q, int ((k : Nat) : Int)] w fun v w' => v = int 0 ∧ Sat (cach q pd sec H none :: F) w' := by
  obtain ⟨⟨bl, qc, hand, hits, misses, fs, buf, sn, rn, pool⟩, ⟨hca, hha, hfew⟩, hs⟩ := cach_open hs
  dsimp only [] at hca hha hfew hs
  have hcn := cnone_spec (q := q) hs
  have hfi := find_spec (q := q) (fs := fs) hs rfl hfew ((k : Nat) : Int)
  refine Ret.enter [(true, ptr q), (true, int ((k : Nat) : Int))] _ Tryz.func137 rfl Tryz.ntmps137 rfl ?_
  refine zz ?_
  refine zc rfl (hcn) ?_
  rintro _ w ⟨rfl, rfl⟩
  refine zz ?_
  refine zc rfl (hfi) ?_
  rintro _ w ⟨rfl, ⟨i, hi, hh, hk, rfl⟩ | ⟨hno, rfl⟩⟩
  rotate_left
  · obtain ⟨f, hf, h1, h2⟩ := hca.pinned k rfl
    exact absurd h2 (hno f hf h1)
  obtain ⟨hp1, hca'⟩ := hca.leave hi hh hk
  have h2 : (frsV fs)[i * 5 + 2]? = some (int 1) := by
    have := frs_at (fs := fs) (i := i) (r := 2) hi (by decide)
    rw [Int.toNat_natCast, Nat.zero_add] at this
    rw [this]; show some (int fs[i].pins) = _; rw [hp1]
  refine zz ?_
  refine MC.la true (la_load1 hs rfl h2) rfl ?_
  refine zz ?_
  refine MC.la true (la_load1 hs rfl h2) rfl ?_
  refine zz ?_
  refine MC.does true (does_store1 hs rfl rfl rfl (by rw [frsV_length]; omega)) rfl ?_; intro _ w hs
  rw [frs_set (f' := { fs[i] with pins := 0 }) hi rfl (by decide)] at hs
  refine zz ?_
  refine MC.ret rfl ?_
  refine ⟨rfl, cach_shut (x := ⟨bl, qc, hand, hits, misses, fs.set i { fs[i] with pins := 0 }, buf, sn, rn, pool⟩) ⟨hca', by rw [List.length_set]; exact hha, by rw [List.length_set]; exact hfew⟩ ?_⟩
  show Sat (chn qc (fs.set i { fs[i] with pins := 0 }).length buf sn rn :: cblk q pd bl (fs.set i { fs[i] with pins := 0 }).length qc _ hits misses :: _) w
  rw [List.length_set]
  exact hs
end Go.Proofs.YtkccjgllanpebaaGreatDoor
