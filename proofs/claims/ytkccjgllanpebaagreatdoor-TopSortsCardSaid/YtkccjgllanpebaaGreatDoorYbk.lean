/-
  What the row lists, a world that holds it; values as a row hands them in
-/
import Derived.Test.YtkccjgllanpebaaGreatDoorRows
import Derived.Test.YtkccjgllanpebaaGreatDoorYaq
import Derived.Test.YtkccjgllanpebaaGreatDoorYao
import Derived.Lib.LaidIn
import Derived.Lib.LaidU8T
import Derived.Lib.LaidTab
import Derived.Deep.DeepHandedRow
import Derived.Deep.DeepWitnessRowRef
set_option maxHeartbeats 1000000
set_option linter.unusedVariables false
set_option linter.unusedSimpArgs false
namespace Go.Proofs.YtkccjgllanpebaaGreatDoor
open Go Go.Sl Go.Tr Go.Kv Go.Lib Go.ChangeShapes Go.WideShapes
theorem wall_mem {H : Type} {P : Program} {e : TypeId} {q : Nat → Bool} : ∀ {l : List (DataW H)}, (DataW.weightsAll P e l).all q = true → ∀ d ∈ l, (d.weights P e).all q = true
  | [], _, d, h => by cases h
  | a :: l, h, d, hd => by
    rw [DataW.weightsAll, List.all_append, Bool.and_eq_true] at h
    rcases List.mem_cons.1 hd with rfl | hd
    · exact h.1
    · exact wall_mem h.2 d hd
theorem wagg {H : Type} {P : Program} {t : TypeId} {fs : Array Field} (ht : P.underlying t = some (.struct fs)) (parts : List (DataW H)) : (DataW.agg parts).weights P t = DataW.weightsEach P (fs.toList.map (·.type)) parts := by
  rw [DataW.weights, ht]
theorem wlit {H : Type} {P : Program} {t : TypeId} (s : List UInt8) : (DataW.lit (.string s) : DataW H).weights P t = [s.length] := by
  rw [DataW.weights]
section
variable {H : Type} {enc : TypeId × Value → H} {P : Program} {W : World}
theorem open_slice_w {α : Type} [Inhabited α] {t e : TypeId} {c : Nat} (row : α → List Value) (good : α → Prop) (ht : P.underlying t = some (.slice e)) (hc : P.cellsOf e = c) (h0 : 0 < c) (hb : 0 < P.bytesOf e) {n : Nat}
    (dec : ∀ (m : Nat), m < n → ∀ (cs : List Value) (x : DataW H × List MemPlace), DataW.trod enc P W 0 (fun _ => true) true m e cs = some x → (x.1.weights P e).all (· ≤ reachBytes) = true → ∃ y, cs = row y ∧ (row y).length = c ∧ good y)
    {cs : List Value} {x : DataW H × List MemPlace} (h : DataW.trod enc P W 0 (fun _ => true) true n t cs = some x) (hw : (x.1.weights P t).all (· ≤ reachBytes) = true) :
    ∃ (q : Option Addr) (k : Nat) (ys : List α), cs = [.slice q ys.length k] ∧ ys.length ≤ k ∧ ys.length ≤ reachBytes ∧ (∀ y ∈ ys, good y ∧ (row y).length = c) ∧ RdS [old W] c (.slice q ys.length k) ys.length (ys.flatMap row) := by
  rcases DataW.trod_slice ht h with ⟨rfl, rfl⟩ | ⟨a, len, cap, elems, rest, n', hn, rfl, rfl, hb', hl, hm, hlen, hel, _, _⟩
  · exact ⟨none, 0, [], rfl, Nat.le_refl _, Nat.zero_le _, fun y hy => absurd hy (by simp), ⟨none, 0, rfl, Nat.le_refl _, by simp, fun h => by simp at h⟩⟩
  subst hc
  rw [DataW.weights, ht] at hw
  dsimp only [] at hw
  rw [List.all_cons, List.all_append, Bool.and_eq_true, Bool.and_eq_true] at hw
  obtain ⟨hw1, hw2, _⟩ := hw
  have hw1 := of_decide_eq_true hw1
  rw [List.length_map, List.length_map] at hw1
  have hreach : len ≤ reachBytes := by
    refine Nat.le_trans (Nat.le_trans ?_ (Nat.le_mul_of_pos_right _ hb)) hw1
    omega
  have each : ∀ i, i < len → ∃ y : α, W.cells? 0 (a.add (i * P.cellsOf e)) (P.cellsOf e) = some (row y) ∧ (row y).length = P.cellsOf e ∧ good y := fun i hi => by
    have h1 := hel i hi
    rw [List.getElem?_eq_getElem (show i < elems.length by omega)] at h1
    obtain ⟨cs', h2, h3⟩ := Option.bind_eq_some_iff.1 h1
    obtain ⟨y, rfl, hy, hg⟩ := dec n' (by omega) cs' _ h3 (wall_mem hw2 _ (List.mem_map_of_mem (List.getElem_mem _)))
    exact ⟨y, h2, hy, hg⟩
  obtain ⟨f, hf⟩ := Go.Deep.choose_lt each
  have hys : ((List.range len).map f).length = len := by simp
  have hrow : ∀ y ∈ (List.range len).map f, good y ∧ (row y).length = P.cellsOf e := fun y hy => by
    obtain ⟨i, hi, rfl⟩ := List.mem_map.1 hy
    obtain ⟨_, h2, h3⟩ := hf i (List.mem_range.1 hi)
    exact ⟨h3, h2⟩
  have hxl : (((List.range len).map f).flatMap row).length = len * P.cellsOf e := by
    rw [rows_length (fun y hy => (hrow y hy).2), hys]
  refine ⟨some a, cap, (List.range len).map f, by rw [hys], by rw [hys]; exact hl, by rw [hys]; exact hreach, hrow, some a, cap, by rw [hys], by rw [hys]; exact hl, by rw [hxl, hys], fun hp => rd_old (fun j hj => ?_) (by rw [hxl]; rw [hys] at hp; exact hp)⟩
  rw [hxl] at hj
  have hi : j / P.cellsOf e < len := Nat.div_lt_of_lt_mul (by rw [Nat.mul_comm]; exact hj)
  have hr : j % P.cellsOf e < P.cellsOf e := Nat.mod_lt _ h0
  have hj' : j / P.cellsOf e * P.cellsOf e + j % P.cellsOf e = j := by rw [Nat.mul_comm]; exact Nat.div_add_mod _ _
  have h1 := rows_cell (f := row) (xs := (List.range len).map f) (fun y hy => (hrow y hy).2) (k := j / P.cellsOf e) (r := j % P.cellsOf e) (by rw [hys]; exact hi) hr
  rw [hj'] at h1
  rw [h1]
  obtain ⟨h2, _, _⟩ := hf _ hi
  obtain ⟨_, _, h3⟩ := World.cells?_some h2
  have h4 := h3 _ hr
  rw [Go.Deep.add_add, hj'] at h4
  rw [h4]
  simp
end
theorem str_of (s : ByteArray) : Value.string s = str s.data.toList := by
  obtain ⟨d⟩ := s
  simp
instance : Inhabited V := ⟨⟨0, 0, 0, [], [], []⟩⟩
theorem six_of {l : List Value} (h : l.length = 6) : ∃ a b c d e f, l = [a, b, c, d, e, f] := by
  match l, h with
  | [a, b, c, d, e, f], _ => exact ⟨a, b, c, d, e, f, rfl⟩
theorem i64_of {m : Int} (h : (Lit.int .i64 m).wf = true) : I64 m := by
  have : -9223372036854775808 ≤ m ∧ m ≤ 9223372036854775807 := by simpa [Lit.wf, IntKind.min, IntKind.max, IntKind.signed, IntKind.bits] using h
  exact this
theorem reach_huge {n : Nat} (h : n ≤ reachBytes) : n ≤ hugeN := by unfold hugeN; unfold reachBytes at h; omega
theorem val_dec {H : Type} {enc : TypeId × Value → H} {W : World} : ∀ (n : Nat) {cs : List Value} {x : DataW H × List MemPlace}, DataW.trod enc Tryz.prog W 0 (fun _ => true) true n 32 cs = some x → (x.1.weights Tryz.prog 32).all (· ≤ reachBytes) = true → ∃ v, VR [old W] v cs := by
  intro n
  induction n using Nat.strongRecOn with
  | ind n ih =>
    intro cs x h hw
    obtain ⟨xs, m, hm, hx, hl, hxl, hf⟩ := DataW.trod_struct Tryz.underlying32 h
    obtain ⟨c0, c1, c2, c3, c4, c5, rfl⟩ := six_of (l := cs) (hl.trans (by kernel_rfl))
    have at_ : ∀ i, i < 5 → ∃ y, xs[i]? = some y := fun i hi => ⟨_, List.getElem?_eq_getElem (by rw [hxl]; exact hi)⟩
    obtain ⟨x0, h0⟩ := at_ 0 (by decide)
    obtain ⟨x1, h1⟩ := at_ 1 (by decide)
    obtain ⟨x2, h2⟩ := at_ 2 (by decide)
    obtain ⟨x3, h3⟩ := at_ 3 (by decide)
    obtain ⟨x4, h4⟩ := at_ 4 (by decide)
    have hxs : xs = [x0, x1, x2, x3, x4] := by
      have hl5 : xs.length = 5 := hxl.trans (by kernel_rfl)
      match xs, hl5, h0, h1, h2, h3, h4 with
      | [a, b, c, d, e], _, h0, h1, h2, h3, h4 => simp at h0 h1 h2 h3 h4; rw [h0, h1, h2, h3, h4]
    subst hxs
    subst hx
    have hw : (DataW.weightsEach Tryz.prog [3, 29, 9, 22, 30] [x0.1, x1.1, x2.1, x3.1, x4.1]).all (· ≤ reachBytes) = true := (congrArg (fun l : List Nat => l.all (· ≤ reachBytes)) (wagg Tryz.underlying32 [x0.1, x1.1, x2.1, x3.1, x4.1])).symm.trans hw
    simp only [DataW.weightsEach, List.all_append, Bool.and_eq_true] at hw
    obtain ⟨-, -, w2, w3, w4, -⟩ := hw
    have ci : Tryz.prog.cellsOf 3 = 1 := by kernel_rfl
    have cj : Tryz.prog.cellsOf 2 = 1 := by kernel_rfl
    have cn : Tryz.prog.cellsOf 29 = 2 := by kernel_rfl
    have cs : Tryz.prog.cellsOf 9 = 1 := by kernel_rfl
    have cl : Tryz.prog.cellsOf 22 = 1 := by kernel_rfl
    have ck : Tryz.prog.cellsOf 30 = 1 := by kernel_rfl
    have e0 : DataW.trod enc Tryz.prog W 0 (fun _ => true) true m 3 (([c0, c1, c2, c3, c4, c5].drop 0).take (Tryz.prog.cellsOf 3)) = some x0 := (hf 0 _ rfl).trans h0
    rw [ci] at e0
    have e1 : DataW.trod enc Tryz.prog W 0 (fun _ => true) true m 29 (([c0, c1, c2, c3, c4, c5].drop 1).take (Tryz.prog.cellsOf 29)) = some x1 := (hf 1 _ rfl).trans h1
    rw [cn] at e1
    have e2 : DataW.trod enc Tryz.prog W 0 (fun _ => true) true m 9 (([c0, c1, c2, c3, c4, c5].drop 3).take (Tryz.prog.cellsOf 9)) = some x2 := (hf 2 _ rfl).trans h2
    rw [cs] at e2
    have e3 : DataW.trod enc Tryz.prog W 0 (fun _ => true) true m 22 (([c0, c1, c2, c3, c4, c5].drop 4).take (Tryz.prog.cellsOf 22)) = some x3 := (hf 3 _ rfl).trans h3
    rw [cl] at e3
    have e4 : DataW.trod enc Tryz.prog W 0 (fun _ => true) true m 30 (([c0, c1, c2, c3, c4, c5].drop 5).take (Tryz.prog.cellsOf 30)) = some x4 := (hf 4 _ rfl).trans h4
    rw [ck] at e4
    obtain ⟨kd, g0, _, k0⟩ := DataW.trod_int Tryz.underlying3 e0
    obtain ⟨ys, m2, _, _, _, hyl, hg⟩ := DataW.trod_struct Tryz.underlying29 e1
    obtain ⟨y0, z0⟩ : ∃ y, ys[0]? = some y := ⟨_, List.getElem?_eq_getElem (by rw [hyl]; decide)⟩
    obtain ⟨y1, z1⟩ : ∃ y, ys[1]? = some y := ⟨_, List.getElem?_eq_getElem (by rw [hyl]; decide)⟩
    have d0 : DataW.trod enc Tryz.prog W 0 (fun _ => true) true m2 2 (([c1, c2].drop 0).take (Tryz.prog.cellsOf 2)) = some y0 := (hg 0 _ rfl).trans z0
    rw [cj] at d0
    have d1 : DataW.trod enc Tryz.prog W 0 (fun _ => true) true m2 3 (([c1, c2].drop 1).take (Tryz.prog.cellsOf 3)) = some y1 := (hg 1 _ rfl).trans z1
    rw [ci] at d1
    obtain ⟨nm, g1, _, k1⟩ := DataW.trod_int Tryz.underlying2 d0
    obtain ⟨ne, g2, _, k2⟩ := DataW.trod_int Tryz.underlying3 d1
    obtain ⟨ts, g3, rfl, _⟩ := DataW.trod_string Tryz.underlying9 e2
    have w2 : ts.data.toList.length ≤ reachBytes := by
      have w2 := (congrArg (fun l : List Nat => l.all (· ≤ reachBytes)) (wlit (P := Tryz.prog) (t := 9) (H := H) ts.data.toList)).symm.trans w2
      simpa using w2
    obtain ⟨ql, kl, vs, g4, hvl, hvn, hvg, hvr⟩ := open_slice_w (α := V × List Value) (c := 6) (·.2) (fun y => VR [old W] y.1 y.2) Tryz.underlying22 (by kernel_rfl) (by decide) (show 0 < Tryz.prog.bytesOf 32 from of_decide_eq_true (by kernel_rfl)) (fun m' hm' cs x hx hw => by
      obtain ⟨v, hv⟩ := ih m' (by omega) hx hw
      exact ⟨(v, cs), rfl, hv.len, hv⟩) e3 w3
    obtain ⟨qk, kk, ks, g5, hkl, hkn, hkg, hkr⟩ := open_slice_w (α := Bs) (c := 1) (fun s => [str s]) (fun s => s.length ≤ reachBytes) Tryz.underlying30 (by kernel_rfl) (by decide) (show 0 < Tryz.prog.bytesOf 9 from of_decide_eq_true (by kernel_rfl)) (fun m' hm' cs x hx hw => by
      obtain ⟨s, rfl, rfl, _⟩ := DataW.trod_string Tryz.underlying9 hx
      refine ⟨s.data.toList, by rw [str_of], rfl, ?_⟩
      have hw := (congrArg (fun l : List Nat => l.all (· ≤ reachBytes)) (wlit (P := Tryz.prog) (t := 9) (H := H) s.data.toList)).symm.trans hw
      simpa using hw) e4 w4
    have g0 : [c0] = [int kd] := g0
    have g1 : [c1] = [int nm] := g1
    have g2 : [c2] = [int ne] := g2
    have g3 : [c3] = [.string ts] := g3
    have g4 : [c4] = [.slice ql vs.length kl] := g4
    have g5 : [c5] = [.slice qk ks.length kk] := g5
    cases g0; cases g1; cases g2; cases g3; cases g4; cases g5
    rw [str_of]
    have hfl : vs.flatMap (·.2) = (vs.map (·.2)).flatten := List.flatMap_def ..
    rw [hfl] at hvr
    have hst : ks.flatMap (fun s => [str s]) = strsV ks := flat_one _ _
    rw [hst] at hkr
    refine ⟨.mk kd nm ne ts.data.toList (vs.map (·.1)) ks, ?_⟩
    have hlen : (vs.map (·.1)).length = vs.length := List.length_map _
    rw [← hlen] at hvr ⊢
    refine VR.mk hvr (fun r hr => ?_) (by rw [List.length_map, List.length_map]) (fun i v r hv hr => ?_) hkr ⟨reach_huge w2, by rw [hlen]; exact reach_huge hvn, reach_huge hkn, fun x hx => reach_huge (hkg x hx).1, i64_of k0, i64_of k1, i64_of k2⟩
    · obtain ⟨p, hp, rfl⟩ := List.mem_map.1 hr
      exact (hvg p hp).2
    · rw [List.getElem?_map] at hv hr
      obtain ⟨p, hp, rfl⟩ := Option.map_eq_some_iff.1 hv
      rw [hp] at hr
      obtain rfl := Option.some.inj hr
      exact (hvg p (List.mem_of_getElem? hp)).1
theorem vals_dec {H : Type} {enc : TypeId × Value → H} {W : World} {n : Nat} {cs : List Value} {x : DataW H × List MemPlace} (h : DataW.trod enc Tryz.prog W 0 (fun _ => true) true n 22 cs = some x) (hw : (x.1.weights Tryz.prog 22).all (· ≤ reachBytes) = true) :
    ∃ (l : List V) (rows : List (List Value)) (vl : Value), cs = [vl] ∧ RdS [old W] 6 vl l.length rows.flatten ∧ VL [old W] l rows := by
  obtain ⟨ql, kl, vs, g4, hvl, hvn, hvg, hvr⟩ := open_slice_w (α := V × List Value) (c := 6) (·.2) (fun y => VR [old W] y.1 y.2) Tryz.underlying22 (by kernel_rfl) (by decide) (show 0 < Tryz.prog.bytesOf 32 from of_decide_eq_true (by kernel_rfl)) (fun m' hm' cs x hx hw => by
    obtain ⟨v, hv⟩ := val_dec m' hx hw
    exact ⟨(v, cs), rfl, hv.len, hv⟩) h hw
  have hfl : vs.flatMap (·.2) = (vs.map (·.2)).flatten := List.flatMap_def ..
  rw [hfl] at hvr
  have hlen : (vs.map (·.1)).length = vs.length := List.length_map _
  rw [← hlen] at hvr g4
  refine ⟨vs.map (·.1), vs.map (·.2), _, g4, hvr, by rw [List.length_map, List.length_map], fun i v r hv hr => ?_⟩
  rw [List.getElem?_map] at hv hr
  obtain ⟨p, hp, rfl⟩ := Option.map_eq_some_iff.1 hv
  rw [hp] at hr
  obtain rfl := Option.some.inj hr
  exact (hvg p (List.mem_of_getElem? hp)).1
def laidL : List (String × DataW Unit) := [("math/bits.deBruijn32tab", Rows.laid_math_bits_deBruijn32tab), ("math/bits.deBruijn64tab", Rows.laid_math_bits_deBruijn64tab), ("internal/strconv.uint64pow10", Rows.laid_internal_strconv_uint64pow10), ("unicode/utf8.acceptRanges", Rows.laid_unicode_utf8_acceptRanges), ("thimble/num.tens", Rows.laid_thimble_num_tens), ("unicode/utf8.first", Rows.laid_unicode_utf8_first)]
theorem cell_old {W w : World} (h : Sat [old W] w) {a : Addr} {v : Value} (hc : W.cell? a = some v) : w.cell? a = some v := by
  have hs := h.old_same
  have hlt : a.block < W.heap.size := by
    rcases Nat.lt_or_ge a.block W.heap.size with h' | h'
    · exact h'
    · simp only [World.cell?] at hc
      rw [Array.getElem?_eq_none h'] at hc
      cases hc
  have e := hs a.block hlt
  simp only [World.cell?] at hc ⊢
  rw [e]; exact hc
theorem pin_first : Rows.laid_unicode_utf8_first = Lib.firstData := by kernel_rfl
theorem pin_accept : (Rows.laid_unicode_utf8_acceptRanges : DataW Unit) = Lib.acceptData := by kernel_rfl
theorem pin_pow : (Rows.laid_internal_strconv_uint64pow10 : DataW Unit) = Lib.tabData .u64 Lib.pow10Tab := by kernel_rfl
theorem pin_ten : (Rows.laid_thimble_num_tens : DataW Unit) = Lib.tabData .u64 Lib.pow10Tab := by kernel_rfl
theorem mem_first : ("unicode/utf8.first", Lib.firstData) ∈ laidL := by rw [← pin_first]; exact .tail _ (.tail _ (.tail _ (.tail _ (.tail _ (.head _)))))
theorem mem_accept : ("unicode/utf8.acceptRanges", Lib.acceptData) ∈ laidL := by rw [← pin_accept]; exact .tail _ (.tail _ (.tail _ (.head _)))
theorem mem_pow : ("internal/strconv.uint64pow10", (Lib.tabData .u64 Lib.pow10Tab : DataW Unit)) ∈ laidL := by rw [← pin_pow]; exact .tail _ (.tail _ (.head _))
theorem mem_ten : ("thimble/num.tens", (Lib.tabData .u64 Lib.pow10Tab : DataW Unit)) ∈ laidL := by rw [← pin_ten]; exact .tail _ (.tail _ (.tail _ (.tail _ (.head _))))
theorem tabIs_of_reads {P : Program} {W : World} {name : String} {k : IntKind} {zs : List Int} {g : Nat} {t e : TypeId} {n : Nat}
    (hg : P.globalNamed name = some g) (hty : (P.globals[g]?).map (·.type) = some t) (ht : P.underlying t = some (.array n e)) (he : P.underlying e = some (.int k)) (hce : P.cellsOf e = 1) (hct : P.cellsOf t = n)
    (h : Lib.VarReads P W name (Lib.tabData k zs)) : Lib.TabIs P W name k zs := by
  obtain ⟨g', t', cs, fuel, p, hg', ht', hvar, hd⟩ := h
  obtain rfl := Option.some.inj (hg.symm.trans hg')
  obtain rfl := Option.some.inj (hty.symm.trans ht')
  unfold Lib.TabIs
  rw [hvar, ← Lib.cells_of_tab ht he hce hct hd]
theorem tabIs_old {P : Program} {W w : World} {name : String} {k : IntKind} {zs : List Int} (h : Lib.TabIs P W name k zs) (hs : Sat [old W] w) : Lib.TabIs P w name k zs := by
  have ho := hs.old_same
  unfold Lib.TabIs World.var? at *
  cases hg : P.globalNamed name with
  | none => simp [hg] at h
  | some g =>
    simp only [hg, Option.bind_some] at h ⊢
    have hlt : g < W.heap.size := by
      rcases Nat.lt_or_ge g W.heap.size with h' | h'
      · exact h'
      · rw [Array.getElem?_eq_none h'] at h; simp at h
    rw [ho g hlt]
    exact h
theorem tabs_old {W : World} (hL : laidMetH Tryz.prog laidL W) : Tabs [old W] := by
  have htab : Lib.Utf8Tabs 2 3 W :=
    utf8Tabs_of_readsT (U8Types.of196 Tryz.lays196) ⟨by kernel_rfl, by kernel_rfl, by kernel_rfl, by kernel_rfl, by kernel_rfl, by kernel_rfl, by kernel_rfl⟩ (Lib.laidMet.reads hL mem_first) (Lib.laidMet.reads hL mem_accept)
  have hpow : Lib.TabIs Tryz.prog W "internal/strconv.uint64pow10" .u64 Lib.pow10Tab :=
    tabIs_of_reads (g := 4) (t := 208) (e := 180) (n := 20) (by kernel_rfl) (by kernel_rfl) (by kernel_rfl) (by kernel_rfl) (by kernel_rfl) (by kernel_rfl) (Lib.laidMet.reads hL mem_pow)
  have hten : Lib.TabIs Tryz.prog W "thimble/num.tens" .u64 Lib.pow10Tab :=
    tabIs_of_reads (g := 0) (t := 208) (e := 180) (n := 20) (by kernel_rfl) (by kernel_rfl) (by kernel_rfl) (by kernel_rfl) (by kernel_rfl) (by kernel_rfl) (Lib.laidMet.reads hL mem_ten)
  refine ⟨fun w hw => ⟨fun c hc => cell_old hw (htab.1 c hc), fun i hi => ⟨cell_old hw (htab.2 i hi).1, cell_old hw (htab.2 i hi).2⟩⟩, fun w hw => ?_, fun w hw => tabIs_old hpow hw⟩
  have h1 := (tabIs_old hten hw).cell (g := 0) (by kernel_rfl) 18 (by rw [Lib.pow10Tab_length]; decide)
  rw [Lib.pow10Tab_at 18 (by decide)] at h1
  exact h1
def flatD : DataW Unit → List Value
  | .agg ps => ps.flatMap fun d => match d with
    | .lit (.int k z) => [.int k z]
    | .agg qs => qs.flatMap fun e => match e with
      | .lit (.int k z) => [.int k z]
      | _ => []
    | _ => []
  | _ => []
noncomputable def laidWorld (os : Os) : World :=
  let w0 := World.holding Tryz.prog os ⟨#[], #[], []⟩
  let put (h : Array Obj) (g : Nat) (cs : Array Value) : Array Obj := h.modify g fun
    | .cells _ t frozen => .cells cs t frozen
    | o => o
  let h1 := put w0.heap 2 (Lib.firstTab.map fun z => Value.int .u8 z).toArray
  let h2 := put h1 3 (flatD Rows.laid_unicode_utf8_acceptRanges).toArray
  let h3 := put h2 4 (flatD Rows.laid_internal_strconv_uint64pow10).toArray
  let h4 := put h3 0 (flatD Rows.laid_thimble_num_tens).toArray
  let h5 := put h4 5 (flatD Rows.laid_math_bits_deBruijn32tab).toArray
  let h6 := put h5 6 (flatD Rows.laid_math_bits_deBruijn64tab).toArray
  { w0 with heap := h6 }
theorem laid_met (os : Os) (args : Array Value) : laidMet Tryz.prog laidL ((laidWorld os).forCall (fun _ _ => 0) ⟨#[], args, []⟩).memory :=
  (LaidIn.of_run (l := laidL) [2, 3, 4, 0, 5, 6] 8 (by kernel_rfl) (by kernel_rfl) (by kernel_rfl) (by kernel_rfl)).met
end Go.Proofs.YtkccjgllanpebaaGreatDoor
