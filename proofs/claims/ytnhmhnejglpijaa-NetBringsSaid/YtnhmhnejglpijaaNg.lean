/- net: a net in memory of its own: walk. -/
import Derived.Test.YtnhmhnejglpijaaNf
namespace Go.Proofs.Ytnhmhnejglpijaa
open Go.RowKit
set_option maxRecDepth 100000
set_option linter.unusedSimpArgs false
set_option linter.unusedVariables false
/-- What the statement 'h.Parcels = append(h.Parcels, own(p))' wants to know: p lies in the block box. -/
structure SF (B H : Nat) (ps told : List Pc) (lost : Int) (p : Pc) (A' : Option Addr) (c' : Nat) (W W1 : World) (A1 : Option Addr) (c1 : Nat) : Prop where
  keep : ∀ X, Below W1.heap.size W1 X → X.cell? ⟨H, 0, none⟩ = some (.slice A1 ps.length c1) ∧ X.frozen? ⟨H, 0, none⟩ = false ∧ X.cell? ⟨W.heap.size, 0, none⟩ = some (.int .i64 p.site) ∧ X.cell? ⟨W.heap.size, 1, none⟩ = some (.slice A' p.bytes.length c') ∧ X.cell? ⟨W.heap.size, 2, none⟩ = some (.bool p.sp)
  own : ∀ X, Below W1.heap.size W1 X → OwnPs X B (.slice A1 ps.length c1) ps ∧ Below W.heap.size W X ∧ B ≤ X.heap.size
  bys : Bys W1 (.slice A' p.bytes.length c') p.bytes
  base : B ≤ W1.heap.size
  keep2 : ∀ X w4, Below W1.heap.size W1 X → X.grownBy w4 (Value.slice A1 ps.length c1).ownBlock → w4.cell? ⟨H, 0, none⟩ = some (.slice A1 ps.length c1) ∧ w4.frozen? ⟨H, 0, none⟩ = false ∧ w4.cell? ⟨W.heap.size, 0, none⟩ = some (.int .i64 p.site) ∧ w4.cell? ⟨W.heap.size, 1, none⟩ = some (.slice A' p.bytes.length c') ∧ w4.cell? ⟨W.heap.size, 2, none⟩ = some (.bool p.sp)
  fin : ∀ (W2 w4 : World) (g cap : Nat), Below W1.heap.size W1 W2 → OwnPs w4 B (.slice (some ⟨g, 0, none⟩) (ps.length + 1) cap) (ps ++ [p]) → W2.grownBy w4 (Value.slice A1 ps.length c1).ownBlock → NoBytes W2 (Value.slice A1 ps.length c1).ownBlock →
    ((Value.slice A1 ps.length c1).ownBlock = some g ∨ g = W2.heap.size) → HandR B H (ps ++ [p]) lost told (w4.setCell ⟨H, 0, none⟩ (.slice (some ⟨g, 0, none⟩) (ps.length + 1) cap)) ∧ Fr B W (w4.setCell ⟨H, 0, none⟩ (.slice (some ⟨g, 0, none⟩) (ps.length + 1) cap))
theorem send_facts {B H : Nat} {ps told : List Pc} {lost : Int} {p : Pc} {A' : Option Addr} {c' : Nat} {W W1 : World} (hR : HandR B H ps lost told W) (hB : B ≤ W.heap.size) (hb : Bys W (.slice A' p.bytes.length c') p.bytes)
    (hW1 : W.alloc (.cells #[.int .i64 p.site, .slice A' p.bytes.length c', .bool p.sp] 36) = W1) : ∃ A1 c1, SF B H ps told lost p A' c' W W1 A1 c1 := by
  obtain ⟨hBH, vp, vt, hh, hp, ht, hne⟩ := hR
  obtain ⟨A1, c1, rfl, hc1, hc2, hs1⟩ := hp.shape
  have hb1 : Below W.heap.size W W1 := by rw [← hW1]; exact below_al (Below.refl _ _) _
  have hz1 : W1.heap.size = W.heap.size + 1 := by rw [← hW1]; simp
  have hbox : W1.heap[W.heap.size]? = some (.cells #[.int .i64 p.site, .slice A' p.bytes.length c', .bool p.sp] 36 (0, 0)) := by rw [← hW1]; exact new_here W _
  have hHl := lt_of_heap hh
  have HK : (∀ X, Below W1.heap.size W1 X → X.cell? ⟨H, 0, none⟩ = some (.slice A1 ps.length c1) ∧ X.frozen? ⟨H, 0, none⟩ = false ∧ X.cell? ⟨W.heap.size, 0, none⟩ = some (.int .i64 p.site) ∧ X.cell? ⟨W.heap.size, 1, none⟩ = some (.slice A' p.bytes.length c') ∧ X.cell? ⟨W.heap.size, 2, none⟩ = some (.bool p.sp)) := (fun X hX => by
    have h1 := (hX.block H (by omega)).trans ((hb1.block H hHl).trans hh)
    have h2 := (hX.block W.heap.size (by omega)).trans hbox
    exact ⟨cell_of_heap h1, free_of_heap h1, cell_of_heap h2, cell_of_heap h2, cell_of_heap h2⟩)
  have HNE : ((Value.slice A1 ps.length c1).ownBlock ≠ some H ∧ (Value.slice A1 ps.length c1).ownBlock ≠ some W.heap.size) := ⟨by
    rcases hp.ne_hand hh with h | h
    · rw [h]; simp
    · exact h, fun e => by have := (hp.lt _ e).2; omega⟩
  refine ⟨A1, c1, HK, fun X hX => ⟨(hp.below hb1).below hX, below_tr hb1 hX, by have := hX.size; omega⟩, hb.below hb1, by omega, fun X w4 hX hg => ?_, fun W2 w4 g cap h2 => send_end hBH hB hh hp ht hne (below_tr hb1 h2)⟩
  obtain ⟨k1, k2, k3, k4, k5⟩ := HK X hX
  have hs := hX.size
  refine ⟨cell_grown hg k1 HNE.1, ?_, cell_grown hg k3 HNE.2, cell_grown hg k4 HNE.2, cell_grown hg k5 HNE.2⟩
  rw [hg.frozen_far ⟨H, 0, none⟩ (by show H < _; omega) (fun e => HNE.1 e.symm)]
  exact k2
theorem take_pc (ps : List Pc) (k : Nat) (hk : k < ps.length) : ps.take k ++ [pcAt ps k] = ps.take (k + 1) := by
  rw [List.take_succ_eq_append_getElem hk]
  simp [pcAt, List.getD_eq_getElem?_getD, hk]
theorem right_bytes {ps : List Pc} {lost : Int} (h : rightB ps lost = true) : ps.length ≤ 64 ∧ lost ≤ 4611686018427387904 ∧ ∀ k, k < ps.length → (pcAt ps k).bytes.length ≤ 8192 := by
  simp only [rightB, Bool.and_eq_true, decide_eq_true_eq, List.all_eq_true] at h
  refine ⟨h.1.1, h.1.2, fun k hk => ?_⟩
  have := h.2 (pcAt ps k) (by simp [pcAt, List.getD_eq_getElem?_getD, hk])
  simp only [mayP, mayV, decide_eq_true_eq] at this
  exact this.2.2
set_option maxHeartbeats 4000000 in
theorem of_ok (vp : Value) (ps : List Pc) (lost : Int) (w : World) (hr : rightB ps lost = true) (hv : Pcs w vp ps) :
    Calls Try.prog 61 #[.agg #[vp, .int .u64 lost]] w fun e w' => ∃ H, e = .returned (.pointer (some ⟨H, 0, none⟩)) ∧ HandR w.heap.size H ps lost [] w' ∧ Below w.heap.size w w' := by
  obtain ⟨hn64, hl62, hbl⟩ := right_bytes hr
  obtain ⟨A, cap, rfl, h1, h2, h3⟩ := hv
  have HV : Hid (Pcs w (.slice A ps.length cap) ps) := Lib.hid ⟨A, cap, rfl, h1, h2, h3⟩
  unfold maxLen at h2
  have HC := Lib.hid h3
  have HBL := Lib.hid hbl
  have HR := Lib.hid hr
  have hbx : (w.alloc (.cells #[.slice A ps.length cap, .int .u64 lost] 27)).heap[w.heap.size]? = some (.cells #[.slice A ps.length cap, .int .u64 lost] 27 (0, 0)) := new_here w _
  have HX := Lib.hid hbx
  clear h3 hbl hr hbx
  go_enter Try.func61, Try.ntmps61
  go_wp2_with (first
    | (go_at_call 31; (with_reducible refine (check_ok _ ps _ _ HR.out (HV.out.below (below_al (Below.refl _ _) _))).mono ?_); rintro e w1 ⟨rfl, hb1⟩; (have hx1 := (hb1.block w.heap.size (by simp)).trans HX.out); (have c0 : w1.cell? ⟨w.heap.size, 0, none⟩ = some (.slice A ps.length cap) := cell_of_heap hx1); (have c1 : w1.cell? ⟨w.heap.size, 1, none⟩ = some (.int .u64 lost) := cell_of_heap hx1); (have c9 : (w1.alloc (.cells #[.slice none 0 0, .int .u64 lost, .slice none 0 0] 104)).cell? ⟨w.heap.size, 0, none⟩ = some (.slice A ps.length cap) := cell_of_heap (((below_al (Below.refl _ w1) _).block _ (lt_of_heap hx1)).trans hx1)))
    | (go_at_call 62; (with_reducible refine (need_ok _ _).mono ?_); rintro e w2 ⟨rfl, rfl⟩))
  have hz1 := hb1.size
  simp at hz1
  have hR0 : HandR w.heap.size w1.heap.size (ps.take 0) lost [] (w1.alloc (.cells #[.slice none 0 0, .int .u64 lost, .slice none 0 0] 104)) := ⟨by omega, _, _, new_here w1 _, OwnPs.nil _ _, OwnPs.nil _ _, fun b e => by simp [Value.ownBlock] at e⟩
  have hB0 : Below w.heap.size w (w1.alloc (.cells #[.slice none 0 0, .int .u64 lost, .slice none 0 0] 104)) := below_al (below_tr (below_al (Below.refl _ _) _) hb1) _
  have HR0 := Lib.hid hR0
  have HB0 := Lib.hid hB0
  clear hR0 hB0 hb1 hx1 c0 c1 c9
  go_loopw [18, 5] (fun i _ wr => ∃ k : Nat, k ≤ ps.length ∧ i = .int .i64 k ∧ Hid (HandR w.heap.size w1.heap.size (ps.take k) lost [] wr ∧ Below w.heap.size w wr)) (fun i _ _ => ps.length - (intOf i).toNat)
  case atStart => exact ⟨0, Nat.zero_le _, rfl, Lib.hid ⟨HR0.out, HB0.out⟩⟩
  case round =>
    obtain ⟨k, hk, rfl, hrel⟩ := hrel
    by_cases hlt : k < ps.length
    · have hd : decide (k < ps.length) = true := by simpa using hlt
      obtain ⟨b, off, rfl, hcell⟩ := HC.out (by omega)
      obtain ⟨A', c', k1, k2, k3, k4⟩ := hcell k hlt
      have hbw := hrel.out.2
      have d1 := (hbw.cell (p := ⟨b, off + k * 3, none⟩) (World.block_lt_of_cell? w _ k1)).trans k1
      have d2 := (hbw.cell (p := ⟨b, off + k * 3 + 1, none⟩) (World.block_lt_of_cell? w _ k2)).trans k2
      have d3 := (hbw.cell (p := ⟨b, off + k * 3 + 2, none⟩) (World.block_lt_of_cell? w _ k3)).trans k3
      have i0 : (0 : Int) ≤ (k : Int) := by omega
      have i1 : (k : Int) < (ps.length : Int) := by omega
      obtain ⟨W1, hW1⟩ : ∃ W1, wr.alloc (.cells #[.int .i64 (pcAt ps k).site, .slice A' (pcAt ps k).bytes.length c', .bool (pcAt ps k).sp] 36) = W1 := ⟨_, rfl⟩
      obtain ⟨A1, c1, hS⟩ := send_facts hrel.out.1 hbw.size (k4.below hbw) hW1
      have HW1 := Lib.hid hW1
      have HS := Lib.hid hS
      have htk := take_pc ps k hlt
      have htl : (ps.take k).length = k := by rw [List.length_take]; omega
      have hpl := HBL.out k hlt
      have HTK := Lib.hid htk
      generalize pcAt ps k = p at *
      generalize hpk : ps.take k = pk at *
      have hl' : Hid (p.bytes.length ≤ 1099511627776) := Lib.hid (by omega)
      have hn' : Hid (pk.length ≤ 1000000) := Lib.hid (by omega)
      clear hcell k1 k2 k3 k4 hbw hW1 hS htk htl hpl hpk
      go_wp2
      rw [HW1.out]
      obtain ⟨q1, q2, q3, q4, q5⟩ := HS.out.keep W1 (Below.refl _ _)
      go_region_law (first
          | (go_simp; go_at_call 99; (with_reducible refine (own_calls _ _ p.bytes _ _ (HS.out.bys.below ?_) hl'.out).mono ?_); (repeat (with_reducible first | exact Below.refl _ _ | apply below_dr | apply below_al | assumption)); rintro e w3 ⟨v3, rfl, ho3, hb3⟩; (have hbt : Below W1.heap.size W1 w3 := below_tr (by repeat (with_reducible first | exact Below.refl _ _ | apply below_dr | apply below_al | assumption)) hb3); (have hbs : w.heap.size ≤ w3.heap.size := (HS.out.own _ hbt).2.2); (have ho3' : Own8 w3 w.heap.size v3 p.bytes := ho3.base HS.out.base); (obtain ⟨k1, k2, k3, k4, k5⟩ := HS.out.keep w3 hbt); (obtain ⟨j1, j2, j3, j4, j5⟩ := HS.out.keep (w3.alloc (.cells #[.int .i64 p.site, v3, .bool p.sp] 36)) (below_al hbt _)))
          | (refine step_appP (by rfl) (.tmp 27) (.tmp 30) (by rfl) w.heap.size _ pk (by rfl) ((HS.out.own _ hbt).1.below (below_al (Below.refl _ _) _)) w3.heap.size p v3 36 (0, 0) (by rfl) (new_here w3 _) (ho3'.alloc _) hn'.out (by simp; omega) (w3.heap.size + 1) (by simp) ?_; intro g cap w4 h4 hgrow hnb hat hlt; (obtain ⟨m1, m2, m3, m4, m5⟩ := HS.out.keep2 _ _ (below_al hbt _) hgrow)))
      all_goals
        have hE := HS.out.fin _ w4 g cap (below_al hbt _) h4 hgrow hnb (by rw [World.size_alloc]; exact hat)
        have HE := Lib.hid hE
        clear hE h4 hgrow hnb hat ho3 hb3 hbt hbs ho3'
        go_wp2
        go_roundw
        case rel => exact ⟨k + 1, by omega, by go_num, Lib.hid ⟨by rw [← HTK.out]; exact HE.out.1, hrel.out.2.trans HE.out.2.below⟩⟩
        case measure => simp [intOf]; omega
    · have hd : decide (k < ps.length) = false := by simpa using hlt
      have hk2 : k = ps.length := by omega
      subst hk2
      have hE := hrel.out
      rw [List.take_length] at hE
      have HE := Lib.hid hE
      clear hE
      go_wp2
      go_ret
      exact ⟨_, rfl, HE.out.1, HE.out.2⟩
end Go.Proofs.Ytnhmhnejglpijaa
