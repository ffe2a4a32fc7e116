/- net: First: the walk. -/
import Derived.Test.YtnhmhnejglpijaaNv
namespace Go.Proofs.Ytnhmhnejglpijaa
open Go.RowKit Go.Shelf
attribute [local go_sem] Oper.semAt_some
set_option maxRecDepth 100000
set_option linter.unusedSimpArgs false
set_option linter.unusedVariables false
/-- First's answer -/
def firstN (ps : List Pc) (lost site : Int) : Int × Bool :=
  if rightB ps lost = true then match (atSite ps site ps.length).head? with | some k => ((k : Nat), true) | none => (0, false) else (0, false)
/-- between two rounds of First's loop -/
def FirI (w : World) (B : Nat) (pre : List Nat) (W : World) : Prop :=
  pre = [] ∧ W.heap[B]? = some (.cells #[.int .i64 0] 3 (0, 0)) ∧ W.heap[B + 1]? = some (.cells #[.bool false] 4 (0, 0)) ∧ Below w.heap.size w W
/-- where a round has left it -/
def FirX (w : World) (B id : Nat) (c : Code) (pre : List Nat) (W : World) : Prop :=
  c = .exit id ∧ ∃ x : Nat, pre = [x] ∧ W.heap[B]? = some (.cells #[.int .i64 x] 3 (0, 0)) ∧ W.heap[B + 1]? = some (.cells #[.bool true] 4 (0, 0)) ∧ Below w.heap.size w W
theorem heap_own {W W' : World} {b D : Nat} {row : Option Nat} {c : Array Value} {t : TypeId} {f : Nat × Nat} (h : W.heap[b]? = some (.cells c t f)) (hg : W.grownBy W' row) (hr : ∀ r, row = some r → D ≤ r ∧ ∃ o : Obj, W.heap[r]? = some o ∧ o.isCells = false) : W'.heap[b]? = some (.cells c t f) := by
  rw [hg.block b (lt_of_heap h) (fun e => ?_)]
  · exact h
  · obtain ⟨_, o, ho, hc⟩ := hr b e.symm
    rw [h] at ho
    cases ho
    cases hc
theorem FirI.own (w : World) (B D : Nat) (hD : w.heap.size ≤ D) : OwnFrom D (FirI w B) := by
  intro s W W' row ⟨h0, h1, h2, h3⟩ hg hr
  exact ⟨h0, heap_own h1 hg hr, heap_own h2 hg hr, h3.grown hg h3.size (fun k e => Nat.le_trans hD (hr k e).1)⟩
theorem FirX.own (w : World) (B id D : Nat) (hD : w.heap.size ≤ D) (c : Code) : OwnFrom D (FirX w B id c) := by
  intro s W W' row ⟨hc, x, h0, h1, h2, h3⟩ hg hr
  exact ⟨hc, x, h0, heap_own h1 hg hr, heap_own h2 hg hr, h3.grown hg h3.size (fun k e => Nat.le_trans hD (hr k e).1)⟩
theorem first_no (n : Nat) (hn : 3 ≤ n) (vp : Value) (ps : List Pc) (lost site : Int) (w : World) (hp : Pcs w vp ps) (hr : rightB ps lost = false) :
    CallsIn Fence.wide n Try.prog 17 #[.agg #[vp, .int .u64 lost], .int .i64 site] w fun e w' => e = .returned (.tuple #[.int .i64 0, .bool false]) ∧ Below w.heap.size w w' := by
  have HP := Lib.hid (hp.below (below_al (Below.refl w.heap.size w) (.cells #[vp, .int .u64 lost] 27)))
  obtain ⟨A1, c1, rfl, _⟩ := hp.len
  have h1 : 1 ≤ n := by omega
  have HR := Lib.hid hr
  clear hp hr
  refine callsIn_of_wp Try.func17 rfl trivial ?_ rfl
  simp only [Try.ntmps17, List.size_toArray, List.length_cons, List.length_nil, Nat.reduceAdd, Nat.reduceSub, Array.replicate_succ, Array.replicate_zero, List.push_toArray, List.append_toArray, List.nil_append, List.cons_append]
  gi_wp2_with fail
  refine wpInW_scope ?_
  refine wpIn_seq ?_
  gi_wp2_with (refine ⟨trivial, ?_⟩; gi_at_call 31; refine (callsIn_wide.2 (check_calls _ ps lost _ false HR.out HP.out)).mono ?_; rintro e w5 ⟨rfl, hb⟩)
  simp only [Exit.noGoto_normal, Exit.noGoto_ret]
  refine bodyPost_ret (v := .tuple #[.int .i64 0, .bool false]) (by simp [results, Try.results17, go_sem]) rfl ?_
  exact ⟨rfl, below_tr (below_al (Below.refl _ w) _) hb⟩
set_option maxHeartbeats 4000000 in
theorem first_in (n : Nat) (hn : 3 ≤ n) (vp : Value) (ps : List Pc) (lost site : Int) (w : World) (hp : Pcs w vp ps) (hr : rightB ps lost = true) :
    CallsIn Fence.wide n Try.prog 17 #[.agg #[vp, .int .u64 lost], .int .i64 site] w fun e w' => e = .returned (.tuple #[.int .i64 (firstN ps lost site).1, .bool (firstN ps lost site).2]) ∧ Below w.heap.size w w' := by
  have HP := Lib.hid (hp.below (below_al (Below.refl w.heap.size w) (.cells #[vp, .int .u64 lost] 27)))
  obtain ⟨A1, c1, rfl, _⟩ := hp.len
  have h1 : 1 ≤ n := by omega
  have hb0 := new_here w (.cells #[.slice A1 ps.length c1, .int .u64 lost] 27)
  have HB0 := Lib.hid hb0
  have HR := Lib.hid hr
  clear hp hb0 hr
  refine callsIn_of_wp_marks Try.func17 rfl trivial ?_ rfl
  simp only [Try.ntmps17, List.size_toArray, List.length_cons, List.length_nil, Nat.reduceAdd, Nat.reduceSub, Array.replicate_succ, Array.replicate_zero, List.push_toArray, List.append_toArray, List.nil_append, List.cons_append]
  gi_wp2_with fail
  refine wpInW_scope ?_
  refine wpIn_seq ?_
  gi_wp2_with (refine ⟨trivial, ?_⟩; gi_at_call 31; refine (callsIn_wide.2 (check_calls _ ps lost _ true HR.out HP.out)).mono ?_; rintro e w5 ⟨rfl, hb⟩; (have h5 := (hb.block _ (lt_of_heap HB0.out)).trans HB0.out))
  obtain ⟨W6, hW6⟩ : ∃ W6, (w5.alloc (.cells #[.int .i64 0] 3)).alloc (.cells #[.bool false] 4) = W6 := ⟨_, rfl⟩
  obtain ⟨W8, hW8⟩ : ∃ W8, (W6.alloc (.cells #[.slice A1 ps.length c1, .int .u64 lost] 27)).alloc (.cells #[.int .i64 site] 3) = W8 := ⟨_, rfl⟩
  obtain ⟨g0, g1, g2, g3⟩ := new_four w5 (.cells #[.int .i64 0] 3) (.cells #[.bool false] 4) (.cells #[.slice A1 ps.length c1, .int .u64 lost] 27) (.cells #[.int .i64 site] 3)
  have hz6 : W6.heap.size = w5.heap.size + 2 := by rw [← hW6]; simp
  have hz8 : W8.heap.size = w5.heap.size + 4 := by rw [← hW8, ← hW6]; simp
  have h56 : Below w5.heap.size w5 W6 := by rw [← hW6]; exact below_al (below_al (Below.refl _ _) _) _
  have h68 : Below W6.heap.size W6 W8 := by rw [← hW8]; exact below_al (below_al (Below.refl _ _) _) _
  rw [hW6, hW8] at g0 g1 g2 g3
  have hb0 : Below w.heap.size w w5 := below_tr (below_al (Below.refl _ w) _) hb
  have hb8 : Below w.heap.size w W8 := below_tr hb0 (below_tr h56 h68)
  have h6 := (h56.block _ (lt_of_heap h5)).trans h5
  have n0 : W6.cell? ⟨w.heap.size, 0, none⟩ = some (.slice A1 ps.length c1) := cell_of_heap h6
  have n1 : W6.cell? ⟨w.heap.size, 1, none⟩ = some (.int .u64 lost) := cell_of_heap h6
  have hp8 : Pcs W8 (.slice A1 ps.length c1) ps := HP.out.below (below_tr hb (below_tr h56 h68))
  have hp5 : Pcs w5 (.slice A1 ps.length c1) ps := HP.out.below hb
  have HW8 := Lib.hid hW8
  have HZ6 := Lib.hid hz6
  rw [hW6]
  clear hW6 hW8 hz6 h6 h5 hb
  refine wpIn_label ?_
  simp only [Exit.then]
  gi_wp2_with (refine ⟨trivial, ?_⟩; gi_at_call 68; refine (to_in _ _ _ _ _).mono ?_; rintro e w' ⟨rfl, rfl⟩)
  rw [HW8.out]
  have e6 : W6.heap.size + 1 = w5.heap.size + 3 := by rw [HZ6.out]
  have g2' : W8.heap[W6.heap.size]? = some (.cells #[.slice A1 ps.length c1, .int .u64 lost] 27 (0, 0)) := by rw [HZ6.out]; exact g2
  have g3' : W8.heap[W6.heap.size + 1]? = some (.cells #[.int .i64 site] 3 (0, 0)) := by rw [e6]; exact g3
  have hseq := to1_stops (n - 1) (by omega) W6.heap.size (W6.heap.size + 1) w5.heap.size _ ps lost site w5 W8 rfl hp5 (below_tr h56 h68) g2' g3'
  have hI0 : FirI w w5.heap.size [] W8 := ⟨rfl, g0, g1, hb8⟩
  have hs8 : w.heap.size ≤ W8.heap.size := hb8.size
  have hs5 := hb0.size
  have HS6 := Lib.hid (show w5.heap.size + 1 ≠ W6.heap.size + 1 ∧ w5.heap.size ≠ W6.heap.size + 1 by rw [HZ6.out]; omega)
  clear g0 g1 g2 g3 g2' g3' hb8 h56 h68 n0 n1 hp8 hp5 e6
  refine wpIn_rangeFunc_ownF rfl h1 (gf := 103) (lb := #[.pointer (some ⟨W6.heap.size, 0, none⟩), .pointer (some ⟨W6.heap.size + 1, 0, none⟩)]) rfl trivial (enters_of Try.func103 (by kernel_rfl) rfl)
    hseq kpS_t (kpS_b (by omega) (by have := HZ6.out; omega)) (Below.refl _ _) (fun _ => rfl) (FirI w w5.heap.size) (FirX w w5.heap.size 0) (FirI.own w _ _ hs8) (fun c => FirX.own w _ 0 _ hs8 c) hI0
    (fun x => { tmps := #[.agg #[.slice A1 ps.length c1, .int .u64 lost], .int .i64 site, .pointer (some ⟨w.heap.size, 0, none⟩), undef, .int .i64 0, .bool false, .pointer (some ⟨w5.heap.size, 0, none⟩), .pointer (some ⟨w5.heap.size + 1, 0, none⟩), .int .i64 (x : Int),
        .agg #[.slice A1 ps.length c1, .int .u64 lost], .int .i64 0, .bool false, .agg #[.slice A1 ps.length c1, .int .u64 lost], .int .i64 site,
        .func (.func 103) #[] #[.pointer (some ⟨W6.heap.size, 0, none⟩), .pointer (some ⟨W6.heap.size + 1, 0, none⟩)], .int .i64 (x : Int), undef, undef, undef], defers := [] }) ?assign ?body ?done ?stop
  case assign =>
    intro l x W K hK
    gi_wp2
    exact hK
  case body =>
    rintro l pre x W ⟨rfl, h1, h2, h4⟩ _
    have c0 : W.cell? ⟨w5.heap.size, 0, none⟩ = some (.int .i64 0) := cell_of_heap h1
    have c1' : W.cell? ⟨w5.heap.size + 1, 0, none⟩ = some (.bool false) := cell_of_heap h2
    have f0 : W.frozen? ⟨w5.heap.size, 0, none⟩ = false := free_of_heap h1
    have f1 : W.frozen? ⟨w5.heap.size + 1, 0, none⟩ = false := free_of_heap h2
    have H1 := Lib.hid h1
    have H2 := Lib.hid h2
    clear h1 h2
    gi_wp2
    have a1 := heap_setCell_same W w5.heap.size 0 (.int .i64 (x : Int)) _ _ _ H1.out
    have b1 := heap_set_other (k := 0) (v := .int .i64 (x : Int)) H2.out (by omega : w5.heap.size + 1 ≠ w5.heap.size)
    have a2 := heap_set_other (k := 0) (v := .bool true) a1 (by omega : w5.heap.size ≠ w5.heap.size + 1)
    have b2 := heap_setCell_same _ (w5.heap.size + 1) 0 (.bool true) _ _ _ b1
    simp only [List.setIfInBounds_toArray, List.set_cons_zero] at a2 b2
    exact ⟨(KeepsOthers.setCell _ _ _).trans (KeepsOthers.setCell _ _ _), rfl, x, rfl, a2, b2, (h4.setCell (p := ⟨w5.heap.size, 0, none⟩) hs5 _).setCell (p := ⟨w5.heap.size + 1, 0, none⟩) (by show w.heap.size ≤ w5.heap.size + 1; omega) _⟩
  case done =>
    rintro D xs W hD rfl ⟨h0, h1, h2, h4⟩ hK
    have hf : firstN ps lost site = (0, false) := by rw [firstN, if_pos HR.out, h0]; rfl
    have HF := Lib.hid hf
    have c0 : W.cell? ⟨w5.heap.size, 0, none⟩ = some (.int .i64 0) := cell_of_heap h1
    have c1' : W.cell? ⟨w5.heap.size + 1, 0, none⟩ = some (.bool false) := cell_of_heap h2
    clear h0 hf
    gi_wp2
    refine (wpIn_wide (n := n)).2 ?_
    go_region
    go_wp2
    gi_wp2
    simp only [Exit.noGoto_normal, Exit.noGoto_ret]
    refine ⟨by simp, .inl ⟨_, _, rfl, run_takeDeferred (w := W.drew) hK, ?_⟩⟩
    refine ⟨.tuple #[.int .i64 0, .bool false], by simp [results, Try.results17, go_sem], by rw [HF.out], ?_⟩
    exact h4.drew.trans (belowK_b (w := w) (Nat.le_refl _) W.drew D _ _ (by omega) hK rfl rfl)
  case stop =>
    rintro D c pre W hD hpre ⟨rfl, x, rfl, h1, h2, h4⟩ hK
    have hf : firstN ps lost site = ((x : Int), true) := by
      obtain ⟨t, ht⟩ := hpre
      rw [firstN, if_pos HR.out, ← ht]; rfl
    have HF := Lib.hid hf
    have c0 : W.cell? ⟨w5.heap.size, 0, none⟩ = some (.int .i64 x) := cell_of_heap h1
    have c1' : W.cell? ⟨w5.heap.size + 1, 0, none⟩ = some (.bool true) := cell_of_heap h2
    clear hpre hf
    gi_wp2
    refine (wpIn_wide (n := n)).2 ?_
    go_region
    go_wp2
    gi_wp2
    simp only [Exit.noGoto_normal, Exit.noGoto_ret]
    refine ⟨by simp, .inl ⟨_, _, rfl, run_takeDeferred (w := W.drew) hK, ?_⟩⟩
    refine ⟨.tuple #[.int .i64 x, .bool true], by simp [results, Try.results17, go_sem], by rw [HF.out], ?_⟩
    exact h4.drew.trans (belowK_b (w := w) (Nat.le_refl _) W.drew D _ _ (by omega) hK rfl rfl)
theorem first_calls (vp : Value) (ps : List Pc) (lost site : Int) (w : World) (hp : Pcs w vp ps) :
    Calls Try.prog 17 #[.agg #[vp, .int .u64 lost], .int .i64 site] w fun e w' => e = .returned (.tuple #[.int .i64 (firstN ps lost site).1, .bool (firstN ps lost site).2]) ∧ Below w.heap.size w w' := by
  refine (callsIn_wide (n := 3)).1 ?_
  by_cases hr : rightB ps lost = true
  · exact first_in 3 (by omega) vp ps lost site w hp hr
  · rw [show firstN ps lost site = (0, false) from if_neg hr]
    exact first_no 3 (by omega) vp ps lost site w hp (by simpa using hr)
end Go.Proofs.Ytnhmhnejglpijaa
