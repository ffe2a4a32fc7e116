/- net: a parcel is sent: walks. -/
import Derived.Test.YtnhmhnejglpijaaNe
import Derived.Deep.RegionHeld3
namespace Go.Proofs.Ytnhmhnejglpijaa
open Go.RowKit
set_option maxRecDepth 100000
set_option linter.unusedSimpArgs false
set_option linter.unusedVariables false
theorem send_end {B H : Nat} {ps told : List Pc} {lost : Int} {W W2 w4 : World} {vp vt : Value} {p : Pc} {g cap : Nat} (hBH : B ≤ H) (hB : B ≤ W.heap.size) (hh : W.heap[H]? = some (.cells #[vp, .int .u64 lost, vt] 104 (0, 0))) (hp : OwnPs W B vp ps) (ht : OwnPs W B vt told)
    (hne : ∀ b, vp.ownBlock = some b → vt.ownBlock ≠ some b) (hb2 : Below W.heap.size W W2) (h4 : OwnPs w4 B (.slice (some ⟨g, 0, none⟩) (ps.length + 1) cap) (ps ++ [p])) (hg : W2.grownBy w4 vp.ownBlock) (hnb : NoBytes W2 vp.ownBlock) (hat : vp.ownBlock = some g ∨ g = W2.heap.size) :
    HandR B H (ps ++ [p]) lost told (w4.setCell ⟨H, 0, none⟩ (.slice (some ⟨g, 0, none⟩) (ps.length + 1) cap)) ∧ Fr B W (w4.setCell ⟨H, 0, none⟩ (.slice (some ⟨g, 0, none⟩) (ps.length + 1) cap)) := by
  have hHl := lt_of_heap hh
  have hs := hb2.size
  have hh4 : w4.heap[H]? = some (.cells #[vp, .int .u64 lost, vt] 104 (0, 0)) := by
    rw [hg.block H (by omega) (fun e => ?_), hb2.block H hHl]
    · exact hh
    · rcases hp.ne_hand hh with h | h
      · rw [h] at e; cases e
      · exact h e.symm
  refine ⟨HandR.setPs (ps := ps) hBH hh4 h4 ((ht.below hb2).kept hg hnb ?_) ?_, ?_⟩
  · cases hv : vt.ownBlock with
    | none => exact .inl rfl
    | some k => exact .inr (fun e => hne k e.symm hv)
  · intro b e
    simp [Value.ownBlock] at e
    subst e
    rcases hat with h | h
    · exact hne g h
    · intro e2
      have := (ht.lt g e2).2
      omega
  · exact ((Fr.of_below hB hb2).trans (Fr.grown hg (by omega) (hp.below hb2).type)).trans (Fr.set hBH hh4 (.inr rfl) 0 _)
theorem cell_grown {w w' : World} {row : Option Nat} {p : Addr} {v : Value} (hg : w.grownBy w' row) (h : w.cell? p = some v) (hne : row ≠ some p.block) : w'.cell? p = some v := hg.cell h (fun e => hne e.symm)
set_option maxHeartbeats 4000000 in
theorem send_room (B H : Nat) (ps told : List Pc) (lost : Int) (p : Pc) (bv : Value) (W : World) (hR : HandR B H ps lost told W) (hB : B ≤ W.heap.size) (hb : Bys W bv p.bytes) (hl : p.bytes.length ≤ 1099511627776) (hn : ps.length < 64) :
    Calls Try.prog 66 #[.pointer (some ⟨H, 0, none⟩), .agg #[.int .i64 p.site, bv, .bool p.sp]] W fun e w' => e = .returned (.tuple #[]) ∧ HandR B H (ps ++ [p]) lost told w' ∧ Fr B W w' := by
  obtain ⟨hBH, vp, vt, hh, hp, ht, hne⟩ := hR
  obtain ⟨A1, c1, rfl, hc1, hc2, hs1⟩ := hp.shape
  obtain ⟨A', c', rfl, hbl⟩ : ∃ A' c', bv = .slice A' p.bytes.length c' ∧ True := by
    obtain ⟨A, c, e, _⟩ := hb
    exact ⟨A, c, e, trivial⟩
  obtain ⟨W1, hW1⟩ : ∃ W1, W.alloc (.cells #[.int .i64 p.site, .slice A' p.bytes.length c', .bool p.sp] 36) = W1 := ⟨_, rfl⟩
  have hb1 : Below W.heap.size W W1 := by rw [← hW1]; exact below_al (Below.refl _ _) _
  have hz1 : W1.heap.size = W.heap.size + 1 := by rw [← hW1]; simp
  have hbox : W1.heap[W.heap.size]? = some (.cells #[.int .i64 p.site, .slice A' p.bytes.length c', .bool p.sp] 36 (0, 0)) := by rw [← hW1]; exact new_here W _
  have hHl := lt_of_heap hh
  have HK : Hid (∀ X, Below W1.heap.size W1 X → X.cell? ⟨H, 0, none⟩ = some (.slice A1 ps.length c1) ∧ X.frozen? ⟨H, 0, none⟩ = false ∧ X.cell? ⟨W.heap.size, 0, none⟩ = some (.int .i64 p.site) ∧ X.cell? ⟨W.heap.size, 1, none⟩ = some (.slice A' p.bytes.length c') ∧ X.cell? ⟨W.heap.size, 2, none⟩ = some (.bool p.sp)) := Lib.hid (fun X hX => by
    have h1 := (hX.block H (by omega)).trans ((hb1.block H hHl).trans hh)
    have h2 := (hX.block W.heap.size (by omega)).trans hbox
    exact ⟨cell_of_heap h1, free_of_heap h1, cell_of_heap h2, cell_of_heap h2, cell_of_heap h2⟩)
  have HO : Hid (∀ X, Below W1.heap.size W1 X → OwnPs X B (.slice A1 ps.length c1) ps ∧ Below W.heap.size W X ∧ B ≤ X.heap.size ∧ W.heap.size + 1 ≤ X.heap.size) := Lib.hid (fun X hX => ⟨(hp.below hb1).below hX, below_tr hb1 hX, by have := hX.size; omega, by have := hX.size; omega⟩)
  have HB : Hid (Bys W1 (.slice A' p.bytes.length c') p.bytes) := Lib.hid (hb.below hb1)
  have HNE : Hid ((Value.slice A1 ps.length c1).ownBlock ≠ some H ∧ (Value.slice A1 ps.length c1).ownBlock ≠ some W.heap.size) := Lib.hid ⟨by
    rcases hp.ne_hand hh with h | h
    · rw [h]; simp
    · exact h, fun e => by have := (hp.lt _ e).2; omega⟩
  have HK2 : Hid (∀ X w4, Below W1.heap.size W1 X → X.grownBy w4 (Value.slice A1 ps.length c1).ownBlock → w4.cell? ⟨H, 0, none⟩ = some (.slice A1 ps.length c1) ∧ w4.frozen? ⟨H, 0, none⟩ = false ∧ w4.cell? ⟨W.heap.size, 0, none⟩ = some (.int .i64 p.site) ∧ w4.cell? ⟨W.heap.size, 1, none⟩ = some (.slice A' p.bytes.length c') ∧ w4.cell? ⟨W.heap.size, 2, none⟩ = some (.bool p.sp)) := Lib.hid (fun X w4 hX hg => by
    obtain ⟨k1, k2, k3, k4, k5⟩ := HK.out X hX
    have hs := hX.size
    refine ⟨cell_grown hg k1 HNE.out.1, ?_, cell_grown hg k3 HNE.out.2, cell_grown hg k4 HNE.out.2, cell_grown hg k5 HNE.out.2⟩
    rw [hg.frozen_far ⟨H, 0, none⟩ (by show H < _; omega) (fun e => HNE.out.1 e.symm)]
    exact k2)
  have HE := Lib.hid (fun (W2 w4 : World) (g cap : Nat) => send_end (W2 := W2) (w4 := w4) (p := p) (g := g) (cap := cap) hBH hB hh hp ht hne)
  have hd : ((ps.length : Int) == 64) = false := by rw [beq_eq_false_iff_ne]; omega
  have c0 : (W.alloc (.cells #[.int .i64 p.site, .slice A' p.bytes.length c', .bool p.sp] 36)).cell? ⟨H, 0, none⟩ = some (.slice A1 ps.length c1) := by rw [hW1]; exact (HK.out W1 (Below.refl _ _)).1
  have HW1 := Lib.hid hW1
  have hn' : Hid (ps.length ≤ 1000000) := Lib.hid (by omega)
  have hl' := Lib.hid hl
  clear hW1 hh hp ht hne hb1 hbox hb hs1 hc1 hc2 hHl hl hn
  go_enter Try.func66, Try.ntmps66
  go_wp2
  rw [HW1.out]
  clear c0
  obtain ⟨q1, q2, q3, q4, q5⟩ := HK.out W1 (Below.refl _ _)
  go_region_law (first
      | (go_simp; go_at_call 99; (with_reducible refine (own_calls _ _ p.bytes _ _ (HB.out.below ?_) hl'.out).mono ?_); (repeat (with_reducible first | exact Below.refl _ _ | apply below_dr | apply below_al | assumption)); rintro e w3 ⟨v3, rfl, ho3, hb3⟩; (have hbt : Below W1.heap.size W1 w3 := below_tr (by repeat (with_reducible first | exact Below.refl _ _ | apply below_dr | apply below_al | assumption)) hb3); (have hbs : B ≤ w3.heap.size := (HO.out _ hbt).2.2.1); (have ho3' : Own8 w3 B v3 p.bytes := ho3.base (by have := (HO.out W1 (Below.refl _ _)).2.2.1; exact this)); (obtain ⟨k1, k2, k3, k4, k5⟩ := HK.out w3 hbt); (obtain ⟨j1, j2, j3, j4, j5⟩ := HK.out (w3.alloc (.cells #[.int .i64 p.site, v3, .bool p.sp] 36)) (below_al hbt _)))
      | (refine step_appP (by rfl) (.tmp 27) (.tmp 30) (by rfl) B _ ps (by rfl) ((HO.out _ hbt).1.below (below_al (Below.refl _ _) _)) w3.heap.size p v3 36 (0, 0) (by rfl) (new_here w3 _) (ho3'.alloc _) hn'.out (by simp; omega) (w3.heap.size + 1) (by simp) ?_; intro g cap w4 h4 hgrow hnb hat hlt; (obtain ⟨m1, m2, m3, m4, m5⟩ := HK2.out _ _ (below_al hbt _) hgrow)))
  all_goals
    have hE := HE.out _ w4 g cap (HO.out _ (below_al hbt _)).2.1 h4 hgrow hnb (by rw [World.size_alloc]; exact hat)
    go_wp2
    go_end0
    exact ⟨rfl, hE.1, hE.2⟩
/-- no room -/
theorem send_full (B H : Nat) (ps told : List Pc) (lost : Int) (p : Pc) (bv : Value) (W : World) (hR : HandR B H ps lost told W) (hB : B ≤ W.heap.size) (hb : Bys W bv p.bytes) (h0 : 0 ≤ lost) (h1 : lost ≤ 4611686018427387904) (hn : ps.length = 64) :
    Calls Try.prog 66 #[.pointer (some ⟨H, 0, none⟩), .agg #[.int .i64 p.site, bv, .bool p.sp]] W fun e w' => e = .returned (.tuple #[]) ∧ HandR B H ps (min (lost + 1) 4611686018427387904) told w' ∧ Fr B W w' := by
  obtain ⟨A', c', rfl⟩ : ∃ A' c', bv = .slice A' p.bytes.length c' := by
    obtain ⟨A, c, e, _⟩ := hb
    exact ⟨A, c, e⟩
  obtain ⟨W1, hW1⟩ : ∃ W1, W.alloc (.cells #[.int .i64 p.site, .slice A' p.bytes.length c', .bool p.sp] 36) = W1 := ⟨_, rfl⟩
  have hb1 : Below W.heap.size W W1 := by rw [← hW1]; exact below_al (Below.refl _ _) _
  have hR1 := hR.below hb1
  obtain ⟨hBH, vp, vt, hh, hp, ht, hne⟩ := hR1
  obtain ⟨A1, c1, rfl, _⟩ := hp.shape
  have c0 := cell_of_heap (k := 0) hh
  have c1' := cell_of_heap (k := 1) hh
  have f1 := free_of_heap (k := 1) hh
  simp only [List.getElem?_toArray, List.getElem?_cons_zero, List.getElem?_cons_succ] at c0 c1'
  rw [← hW1] at c0 c1' f1
  rw [hn] at c0
  have HE := Lib.hid (HandR.setLost (lost' := min (lost + 1) 4611686018427387904) ⟨hBH, _, vt, hh, hp, ht, hne⟩)
  have HBB : Hid (Fr B W (W1.setCell ⟨H, 1, none⟩ (.int .u64 (min (lost + 1) 4611686018427387904)))) := Lib.hid ((Fr.of_below hB hb1).trans (Fr.set hBH hh (.inr rfl) 1 _))
  have HW1 := Lib.hid hW1
  clear hW1 hh hp ht hne hb1 hR hB hb hBH
  by_cases h5 : lost + 1 ≤ 4611686018427387904
  · have e : min (lost + 1) 4611686018427387904 = lost + 1 := by omega
    rw [e] at HE HBB ⊢
    clear e
    go_enter Try.func66, Try.ntmps66
    go_wp2
    rw [HW1.out]
    exact bodyPost_ret (results_none rfl _ _ _) rfl ⟨rfl, HE.out, HBB.out⟩
  · have e : min (lost + 1) 4611686018427387904 = 4611686018427387904 := by omega
    rw [e] at HE HBB ⊢
    clear e
    go_enter Try.func66, Try.ntmps66
    go_wp2
    rw [HW1.out]
    exact bodyPost_ret (results_none rfl _ _ _) rfl ⟨rfl, HE.out, HBB.out⟩
end Go.Proofs.Ytnhmhnejglpijaa
