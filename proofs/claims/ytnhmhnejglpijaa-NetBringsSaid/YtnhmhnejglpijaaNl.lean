/- net: a parcel is spoilt: walks. -/
import Derived.Test.YtnhmhnejglpijaaNk
import Derived.Deep.QuietTactic
import Derived.BigQuiet
namespace Go.Proofs.Ytnhmhnejglpijaa
open Go.RowKit
set_option maxRecDepth 100000
set_option linter.unusedSimpArgs false
set_option linter.unusedVariables false
theorem qcells_set (qs : List (Pc × Value)) : ∀ (k : Nat) (hk : k < qs.length) (q : Pc × Value), q.1.site = qs[k].1.site → qcells (qs.set k q) = ((qcells qs).set (k * 3 + 1) q.2).set (k * 3 + 2) (.bool q.1.sp) := by
  induction qs with
  | nil => intro k hk; simp at hk
  | cons a qs ih =>
    intro k hk q hq
    cases k with
    | zero =>
      simp only [List.set_cons_zero, qcells_cons, Nat.zero_mul, Nat.zero_add, List.set_cons_succ]
      simp only [List.getElem_cons_zero] at hq
      rw [hq]
    | succ k =>
      simp only [List.set_cons_succ, qcells_cons, show (k + 1) * 3 = k * 3 + 3 from by omega]
      simp only [List.getElem_cons_succ] at hq
      rw [ih k (by simpa using hk) q hq]
theorem elem_set {B H : Nat} {ps told : List Pc} {lost : Int} {k : Nat} {W : World} {g c1 c2 c' : Nat} {A2 A' : Option Addr} {v : Value} {l : List B8} (hR : HandR B H ps lost told W) (hk : k < ps.length) (hE : EF B H ps told k W g c1 A2 c2 A' c') (hv : Own8 W B v l) :
    HandR B H (ps.set k ⟨(pcAt ps k).site, l, true⟩) lost told ((W.setCell ⟨g, k * 3 + 1, none⟩ v).setCell ⟨g, k * 3 + 2, none⟩ (.bool true)) ∧ Fr B W ((W.setCell ⟨g, k * 3 + 1, none⟩ v).setCell ⟨g, k * 3 + 2, none⟩ (.bool true)) := by
  obtain ⟨hBH, vp, vt, hh, hp, ht, hne⟩ := hR
  have e0 := hE.c0
  rw [cell_of_heap hh] at e0
  obtain rfl : vp = .slice (some ⟨g, 0, none⟩) ps.length c1 := by simpa using e0
  obtain ⟨qs, rfl, hq⟩ := hp
  rw [List.length_map] at hk hh hq hne
  have hga := (World.ownsRow.lt hq.1 g rfl).1
  rw [pcAt_map qs k hk]
  rcases hq.1.2 with ⟨e, _⟩ | ⟨g', cap, cur, e, hb, hgg, hnc, hcm, hsz, htk⟩
  · cases e
  · cases e
    have hg0 : W.heap[g]? = some (.cells (cur.toList).toArray 36 (0, 0)) := by simpa using hgg
    have h1 := heap_setCell_same W g (k * 3 + 1) v _ _ _ hg0
    have h2 := heap_setCell_same _ g (k * 3 + 2) (.bool true) _ _ _ h1
    simp only [List.setIfInBounds_toArray] at h1 h2
    have hn1 := noBytes_of hg0 (by decide)
    have hn2 := noBytes_of h1 (by decide)
    have hneH : g ≠ H := by
      rintro rfl
      rw [hgg] at hh
      cases hh
    have k1 : ∀ u bs, Own8 W B u bs → Own8 ((W.setCell ⟨g, k * 3 + 1, none⟩ v).setCell ⟨g, k * 3 + 2, none⟩ (.bool true)) B u bs := fun u bs h => (h.keptN (grownBy_set W g _ _) hn1).keptN (grownBy_set _ g _ _) hn2
    have hgt : (Value.ownBlock vt = none ∨ Value.ownBlock vt ≠ some g) := by
      have := hne g rfl
      exact .inr this
    refine ⟨⟨hBH, _, vt, ?_, ⟨qs.set k (⟨qs[k].1.site, l, true⟩, v), ?_, ⟨⟨?_, ?_⟩, ?_⟩⟩, (ht.kept (grownBy_set W g _ _) hn1 hgt).kept (grownBy_set _ g _ _) hn2 hgt, hne⟩, ?_⟩
    · rw [(grownBy_set _ g _ _).block H (by have := lt_of_heap hh; simpa [World.setCell] using this) (fun e => hneH (by cases e; rfl)), (grownBy_set W g _ _).block H (lt_of_heap hh) (fun e => hneH (by cases e; rfl))]
      exact hh
    · rw [List.map_set]
    · rw [qcells_length]
    · refine .inr ⟨g, c1, _, ?_, hb, h2, ?_, hcm, ?_, ?_⟩
      · rw [List.length_set]
      · rw [List.length_set]; exact hnc
      · simp only [List.size_toArray, List.length_set]
        simpa using hsz
      · rw [List.length_set]
        show List.take (qs.length * 3) ((cur.toList.set (k * 3 + 1) v).set (k * 3 + 2) (.bool true)) = _
        rw [List.take_set, List.take_set, htk, qcells_set qs k hk (⟨qs[k].1.site, l, true⟩, v) rfl]
    · intro q hqm
      rcases List.mem_or_eq_of_mem_set hqm with h | h
      · exact k1 _ _ (hq.2 q h)
      · subst h
        exact k1 _ _ hv
    · exact (Fr.set hb hg0 (.inl rfl) _ _).trans (Fr.set hb h1 (.inl rfl) _ _)
theorem below_dn {w W : World} (h : Below w.heap.size w W) (n : Nat) : Below w.heap.size w (W.drewN n) := h.drewN n
set_option maxHeartbeats 4000000 in
theorem spoil_there (B H : Nat) (ps told : List Pc) (lost : Int) (kind bit : Int) (m : W32) (k : Nat) (W : World) (hR : HandR B H ps lost told W) (hB : B ≤ W.heap.size) (hk : k < ps.length) (hn : ps.length ≤ 64) (hs : (pcAt ps k).sp = true) :
    Calls Try.prog 108 #[.pointer (some ⟨H, 0, none⟩), trickV kind k bit m] W fun e w' => e = errP 5 ∧ HandR B H ps lost told w' ∧ Fr B W w' := by
  obtain ⟨W1, hW1⟩ : ∃ W1, W.alloc (.cells #[.int .i64 kind, .int .i64 k, .int .i64 bit, .int .u32 (nb m)] 48) = W1 := ⟨_, rfl⟩
  have hb1 : Below W.heap.size W W1 := by rw [← hW1]; exact below_al (Below.refl _ _) _
  have hbox : W1.heap[W.heap.size]? = some (.cells #[.int .i64 kind, .int .i64 k, .int .i64 bit, .int .u32 (nb m)] 48 (0, 0)) := by rw [← hW1]; exact new_here W _
  have hR1 := hR.below hb1
  obtain ⟨g, c1, A2, c2, A', c', hEF⟩ := elem_facts hR1 hk
  have HF := Lib.hid (fun (X : World) (hX : Below W1.heap.size W1 X) => (⟨hR1.below hX, Fr.of_below hB (below_tr hb1 hX)⟩ : HandR B H ps lost told X ∧ Fr B W X))
  have HW1 := Lib.hid hW1
  have i0 : (0 : Int) ≤ (k : Int) := by omega
  have i1 : (k : Int) < (ps.length : Int) := by omega
  have q1 : W1.cell? ⟨W.heap.size, 1, none⟩ = some (.int .i64 k) := cell_of_heap hbox
  obtain ⟨r0, r2, rf, rx0, rx1, rx2, _, _, _, _, _⟩ := hEF
  rw [hs] at rx2
  clear hW1 hbox hb1 hR hR1 hs
  go_enter Try.func108, Try.ntmps108
  go_wp2
  rw [HW1.out]
  go_quiet (fail)
  go_wp2_with (go_at_call 62; (with_reducible refine (need_no _ _).mono ?_); rintro e w2 ⟨rfl, rfl⟩)
  have h := HF.out (W1.drewN nq) (below_dn (Below.refl _ _) nq)
  exact ⟨rfl, rfl, h.1, h.2⟩
set_option maxHeartbeats 4000000 in
theorem spoil_arg (B H : Nat) (ps told : List Pc) (lost : Int) (kind bit : Int) (m : W32) (k : Nat) (W : World) (hR : HandR B H ps lost told W) (hB : B ≤ W.heap.size) (hk : k < ps.length) (hn : ps.length ≤ 64) (hpl : (pcAt ps k).bytes.length ≤ 8192) (hs : (pcAt ps k).sp = false) (hi : spoilI (pcAt ps k).bytes bit m = none) :
    Calls Try.prog 108 #[.pointer (some ⟨H, 0, none⟩), trickV kind k bit m] W fun e w' => e = errP 2 ∧ HandR B H ps lost told w' ∧ Fr B W w' := by
  obtain ⟨W1, hW1⟩ : ∃ W1, W.alloc (.cells #[.int .i64 kind, .int .i64 k, .int .i64 bit, .int .u32 (nb m)] 48) = W1 := ⟨_, rfl⟩
  have hb1 : Below W.heap.size W W1 := by rw [← hW1]; exact below_al (Below.refl _ _) _
  have hbox : W1.heap[W.heap.size]? = some (.cells #[.int .i64 kind, .int .i64 k, .int .i64 bit, .int .u32 (nb m)] 48 (0, 0)) := by rw [← hW1]; exact new_here W _
  have hR1 := hR.below hb1
  obtain ⟨g, c1, A2, c2, A', c', hEF⟩ := elem_facts hR1 hk
  have hl1 := lt_of_heap hbox
  have HK : Hid (∀ X, Below W1.heap.size W1 X → EF B H ps told k X g c1 A2 c2 A' c' ∧ (X.cell? ⟨W.heap.size, 1, none⟩ = some (.int .i64 k) ∧ X.cell? ⟨W.heap.size, 2, none⟩ = some (.int .i64 bit) ∧ X.cell? ⟨W.heap.size, 3, none⟩ = some (.int .u32 (nb m))) ∧ HandR B H ps lost told X ∧ Fr B W X) := Lib.hid (fun X hX => by
    have h2 := (hX.block W.heap.size hl1).trans hbox
    exact ⟨hEF.below hX, ⟨cell_of_heap h2, cell_of_heap h2, cell_of_heap h2⟩, hR1.below hX, Fr.of_below hB (below_tr hb1 hX)⟩)
  have HS := Lib.hid (fun (X : World) (hX : Below W1.heap.size W1 X) => spoilG (.slice A' (pcAt ps k).bytes.length c') (pcAt ps k).bytes [] bit m false 2 X (by rw [hi]; rfl) (by rw [hi]; rfl) rfl (hEF.below hX).own.bys (by omega))
  have HW1 := Lib.hid hW1
  have i0 : (0 : Int) ≤ (k : Int) := by omega
  have i1 : (k : Int) < (ps.length : Int) := by omega
  clear hW1 hbox hb1 hR hR1 hi hl1 hEF
  obtain ⟨⟨r0, r2, rf, rx0, rx1, rx2, _, _, _, _, _⟩, ⟨q1, q2, q3⟩, _, _⟩ := HK.out W1 (Below.refl _ _)
  rw [hs] at rx2
  have HSP := Lib.hid hs
  clear hs
  go_enter Try.func108, Try.ntmps108
  go_wp2
  rw [HW1.out]
  go_quiet (fail)
  go_wp2_with (go_at_call 62; (with_reducible refine (need_ok _ _).mono ?_); rintro e w2 ⟨rfl, rfl⟩)
  obtain ⟨W2, hW2⟩ : ∃ W2, W1.drewN nq = W2 := ⟨_, rfl⟩
  have hb2 : Below W1.heap.size W1 W2 := by rw [← hW2]; exact below_dn (Below.refl _ _) _
  rw [hW2]
  obtain ⟨⟨s0, s2, sf, sx0, sx1, sx2, _, _, _, _, _⟩, ⟨t1, t2, t3⟩, _, _⟩ := HK.out W2 hb2
  clear hW2
  go_region_law (first
    | (go_simp; go_at_call 53; (with_reducible refine (HS.out _ ?_).mono ?_); (exact below_tr hb2 (by repeat (first | exact Below.refl _ _ | apply below_dr | apply below_al))); rintro e w3 ⟨v3, rfl, ho3, hb3⟩; (have hb3' : Below W1.heap.size W1 w3 := below_tr (below_tr hb2 (by repeat (first | exact Below.refl _ _ | apply below_dr | apply below_al))) hb3)))
  all_goals
    have hfin := HK.out w3 hb3'
    have HFIN := Lib.hid hfin
    clear hfin
    go_wp2_with (go_at_call 62; (with_reducible refine (need_no _ _).mono ?_); rintro e w4 ⟨rfl, rfl⟩)
    exact ⟨rfl, rfl, HFIN.out.2.2.1, HFIN.out.2.2.2⟩
set_option maxHeartbeats 4000000 in
theorem spoil_ok (B H : Nat) (ps told : List Pc) (lost : Int) (kind bit : Int) (m : W32) (k : Nat) (l : List B8) (W : World) (hR : HandR B H ps lost told W) (hB : B ≤ W.heap.size) (hk : k < ps.length) (hn : ps.length ≤ 64) (hpl : (pcAt ps k).bytes.length ≤ 8192) (hs : (pcAt ps k).sp = false) (hi : spoilI (pcAt ps k).bytes bit m = some l) :
    Calls Try.prog 108 #[.pointer (some ⟨H, 0, none⟩), trickV kind k bit m] W fun e w' => e = .returned (.tuple #[]) ∧ HandR B H (ps.set k ⟨(pcAt ps k).site, l, true⟩) lost told w' ∧ Fr B W w' := by
  obtain ⟨W1, hW1⟩ : ∃ W1, W.alloc (.cells #[.int .i64 kind, .int .i64 k, .int .i64 bit, .int .u32 (nb m)] 48) = W1 := ⟨_, rfl⟩
  have hb1 : Below W.heap.size W W1 := by rw [← hW1]; exact below_al (Below.refl _ _) _
  have hbox : W1.heap[W.heap.size]? = some (.cells #[.int .i64 kind, .int .i64 k, .int .i64 bit, .int .u32 (nb m)] 48 (0, 0)) := by rw [← hW1]; exact new_here W _
  have hR1 := hR.below hb1
  obtain ⟨g, c1, A2, c2, A', c', hEF⟩ := elem_facts hR1 hk
  have hl1 := lt_of_heap hbox
  have HK : Hid (∀ X, Below W1.heap.size W1 X → EF B H ps told k X g c1 A2 c2 A' c' ∧ (X.cell? ⟨W.heap.size, 1, none⟩ = some (.int .i64 k) ∧ X.cell? ⟨W.heap.size, 2, none⟩ = some (.int .i64 bit) ∧ X.cell? ⟨W.heap.size, 3, none⟩ = some (.int .u32 (nb m))) ∧ HandR B H ps lost told X ∧ Fr B W X) := Lib.hid (fun X hX => by
    have h2 := (hX.block W.heap.size hl1).trans hbox
    exact ⟨hEF.below hX, ⟨cell_of_heap h2, cell_of_heap h2, cell_of_heap h2⟩, hR1.below hX, Fr.of_below hB (below_tr hb1 hX)⟩)
  have HS := Lib.hid (fun (X : World) (hX : Below W1.heap.size W1 X) => spoilG (.slice A' (pcAt ps k).bytes.length c') (pcAt ps k).bytes l bit m true 0 X (by rw [hi]; rfl) (by rw [hi]; rfl) rfl (hEF.below hX).own.bys (by omega))
  have HBW : Hid (∀ X, Below W1.heap.size W1 X → B ≤ X.heap.size) := Lib.hid (fun X hX => by have := hX.size; omega)
  have HEND := Lib.hid (fun (X : World) (v : Value) (h1 : HandR B H ps lost told X) (h2 : EF B H ps told k X g c1 A2 c2 A' c') (h3 : Own8 X B v l) => elem_set h1 hk h2 h3)
  have HW1 := Lib.hid hW1
  have i0 : (0 : Int) ≤ (k : Int) := by omega
  have i1 : (k : Int) < (ps.length : Int) := by omega
  clear hW1 hbox hb1 hR hR1 hi hl1 hEF
  obtain ⟨⟨r0, r2, rf, rx0, rx1, rx2, _, _, _, _, _⟩, ⟨q1, q2, q3⟩, _, _⟩ := HK.out W1 (Below.refl _ _)
  rw [hs] at rx2
  have HSP := Lib.hid hs
  clear hs
  go_enter Try.func108, Try.ntmps108
  go_wp2
  rw [HW1.out]
  go_quiet (fail)
  go_wp2_with (go_at_call 62; (with_reducible refine (need_ok _ _).mono ?_); rintro e w2 ⟨rfl, rfl⟩)
  obtain ⟨W2, hW2⟩ : ∃ W2, W1.drewN nq = W2 := ⟨_, rfl⟩
  have hb2 : Below W1.heap.size W1 W2 := by rw [← hW2]; exact below_dn (Below.refl _ _) _
  rw [hW2]
  obtain ⟨⟨s0, s2, sf, sx0, sx1, sx2, _, _, _, _, _⟩, ⟨t1, t2, t3⟩, _, _⟩ := HK.out W2 hb2
  clear hW2
  go_region_law (first
    | (go_simp; go_at_call 53; (with_reducible refine (HS.out _ ?_).mono ?_); (exact below_tr hb2 (by repeat (first | exact Below.refl _ _ | apply below_dr | apply below_al))); rintro e w3 ⟨v3, rfl, ho3, hb3⟩; (have hb3' : Below W1.heap.size W1 w3 := below_tr (below_tr hb2 (by repeat (first | exact Below.refl _ _ | apply below_dr | apply below_al))) hb3); (obtain ⟨A3, c3, rfl⟩ := own8_shape ho3)))
  all_goals
    have hfin := HK.out w3 hb3'
    have hend := HEND.out w3 _ hfin.2.2.1 hfin.1 (ho3.base (HBW.out W2 hb2))
    have z1 := hfin.1.x1
    have z2 := hfin.1.x2
    have z3 := hfin.1.y1
    have z4 := hfin.1.y2
    have HFIN := Lib.hid hfin
    have HEND2 := Lib.hid hend
    clear hfin hend
    go_wp2_with (go_at_call 62; (with_reducible refine (need_ok _ _).mono ?_); rintro e w4 ⟨rfl, rfl⟩)
    go_end0
    exact ⟨rfl, HEND2.out.1, HFIN.out.2.2.2.trans HEND2.out.2⟩
end Go.Proofs.Ytnhmhnejglpijaa
