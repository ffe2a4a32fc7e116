/- net: what befalls a parcel: walks. -/
import Derived.Test.YtnhmhnejglpijaaNi
import Derived.Test.YtnhmhnejglpijaaHb
namespace Go.Proofs.Ytnhmhnejglpijaa
open Go.RowKit
set_option maxRecDepth 100000
set_option linter.unusedSimpArgs false
set_option linter.unusedVariables false
/-- a trick, as a value -/
abbrev trickV (kind at_ bit : Int) (m : W32) : Value := .agg #[.int .i64 kind, .int .i64 at_, .int .i64 bit, .int .u32 (nb m)]
theorem drop_calls (B H : Nat) (ps told : List Pc) (lost : Int) (kind bit : Int) (m : W32) (k : Nat) (W : World) (hR : HandR B H ps lost told W) (hB : B ≤ W.heap.size) (hk : k < ps.length) (hn : ps.length ≤ 64) :
    Calls Try.prog 106 #[.pointer (some ⟨H, 0, none⟩), trickV kind k bit m] W fun e w' => e = .returned (.tuple #[]) ∧ HandR B H (ps.eraseIdx k) lost told w' ∧ Fr B W w' := by
  have hb1 : Below W.heap.size W (W.alloc (.cells #[.int .i64 kind, .int .i64 k, .int .i64 bit, .int .u32 (nb m)] 48)) := below_al (Below.refl _ _) _
  have HC := Lib.hid (cut_calls B H ps told lost k _ (hR.below hb1) (Nat.le_trans hB hb1.size) hk hn)
  have HF := Lib.hid (Fr.of_below hB hb1)
  clear hR hb1 hB hk hn
  go_enter Try.func106, Try.ntmps106
  go_wp2_with (go_at_call 121; (with_reducible refine HC.out.mono ?_); rintro e w1 ⟨rfl, hr, hf⟩)
  go_end0
  exact ⟨rfl, hr, HF.out.trans hf⟩
/-- parcel number k of a net that changes, in memory -/
structure EF (B H : Nat) (ps told : List Pc) (k : Nat) (W : World) (g c1 : Nat) (A2 : Option Addr) (c2 : Nat) (A' : Option Addr) (c' : Nat) : Prop where
  c0 : W.cell? ⟨H, 0, none⟩ = some (.slice (some ⟨g, 0, none⟩) ps.length c1)
  c2 : W.cell? ⟨H, 2, none⟩ = some (.slice A2 told.length c2)
  f2 : W.frozen? ⟨H, 2, none⟩ = false
  x0 : W.cell? ⟨g, k * 3, none⟩ = some (.int .i64 (pcAt ps k).site)
  x1 : W.cell? ⟨g, k * 3 + 1, none⟩ = some (.slice A' (pcAt ps k).bytes.length c')
  x2 : W.cell? ⟨g, k * 3 + 2, none⟩ = some (.bool (pcAt ps k).sp)
  y1 : W.frozen? ⟨g, k * 3 + 1, none⟩ = false
  y2 : W.frozen? ⟨g, k * 3 + 2, none⟩ = false
  own : Own8 W B (.slice A' (pcAt ps k).bytes.length c') (pcAt ps k).bytes
  lH : H < W.heap.size
  lg : g < W.heap.size
theorem EF.below {B H : Nat} {ps told : List Pc} {k : Nat} {W X : World} {g c1 : Nat} {A2 : Option Addr} {c2 : Nat} {A' : Option Addr} {c' : Nat} (h : EF B H ps told k W g c1 A2 c2 A' c') (hb : Below W.heap.size W X) : EF B H ps told k X g c1 A2 c2 A' c' := by
  have hs := hb.size
  exact ⟨(hb.cell (p := ⟨H, 0, none⟩) h.lH).trans h.c0, (hb.cell (p := ⟨H, 2, none⟩) h.lH).trans h.c2, (hb.frozen (p := ⟨H, 2, none⟩) h.lH).trans h.f2,
    (hb.cell (p := ⟨g, k * 3, none⟩) h.lg).trans h.x0, (hb.cell (p := ⟨g, k * 3 + 1, none⟩) h.lg).trans h.x1, (hb.cell (p := ⟨g, k * 3 + 2, none⟩) h.lg).trans h.x2,
    (hb.frozen (p := ⟨g, k * 3 + 1, none⟩) h.lg).trans h.y1, (hb.frozen (p := ⟨g, k * 3 + 2, none⟩) h.lg).trans h.y2, h.own.below hb, Nat.lt_of_lt_of_le h.lH hs, Nat.lt_of_lt_of_le h.lg hs⟩
theorem elem_facts {B H : Nat} {ps told : List Pc} {lost : Int} {k : Nat} {W : World} (hR : HandR B H ps lost told W) (hk : k < ps.length) : ∃ g c1 A2 c2 A' c', EF B H ps told k W g c1 A2 c2 A' c' := by
  obtain ⟨hBH, vp, vt, hh, hp, ht, hne⟩ := hR
  obtain ⟨A1, c1, rfl, hc1, hc2, hs1⟩ := hp.shape
  obtain ⟨g, rfl, hg1, hg2⟩ := hs1 (by omega)
  obtain ⟨A2, c2, rfl, hd1, hd2, hs2⟩ := ht.shape
  obtain ⟨qs, rfl, hq⟩ := hp
  rw [List.length_map] at hk
  obtain ⟨e0, e1, e2⟩ := qcells_get qs k hk
  have hcs := World.ownsRow.cells hq.1 rfl
  have x0 := hcs _ _ e0
  have x1 := hcs _ _ e1
  have x2 := hcs _ _ e2
  rw [add_plain] at x0 x1 x2
  have hb8 := hq.2 qs[k] (List.getElem_mem hk)
  obtain ⟨cur, hcur⟩ := row_type hq.1 g rfl
  obtain ⟨A', c', he⟩ := own8_shape hb8
  rw [he] at x1 hb8
  refine ⟨g, c1, A2, c2, A', c', ⟨cell_of_heap hh, cell_of_heap hh, free_of_heap hh, ?_, ?_, ?_, free_of_heap hcur, free_of_heap hcur, ?_, lt_of_heap hh, hg2⟩⟩
  all_goals rw [pcAt_map qs k hk]
  · exact x0
  · exact x1
  · exact x2
  · exact hb8
theorem take_end {B H : Nat} {ps told : List Pc} {lost : Int} {W W2 w4 : World} {vp vt : Value} {p : Pc} {g cap : Nat} (hBH : B ≤ H) (hB : B ≤ W.heap.size) (hh : W.heap[H]? = some (.cells #[vp, .int .u64 lost, vt] 104 (0, 0))) (hp : OwnPs W B vp ps) (ht : OwnPs W B vt told)
    (hne : ∀ b, vp.ownBlock = some b → vt.ownBlock ≠ some b) (hb2 : Below W.heap.size W W2) (h4 : OwnPs w4 B (.slice (some ⟨g, 0, none⟩) (told.length + 1) cap) (told ++ [p])) (hg : W2.grownBy w4 vt.ownBlock) (hnb : NoBytes W2 vt.ownBlock) (hat : vt.ownBlock = some g ∨ g = W2.heap.size) :
    HandR B H ps lost (told ++ [p]) (w4.setCell ⟨H, 2, none⟩ (.slice (some ⟨g, 0, none⟩) (told.length + 1) cap)) ∧ Fr B W (w4.setCell ⟨H, 2, none⟩ (.slice (some ⟨g, 0, none⟩) (told.length + 1) cap)) ∧ (w4.cell? ⟨H, 2, none⟩).isSome = true ∧ w4.frozen? ⟨H, 2, none⟩ = false := by
  have hHl := lt_of_heap hh
  have hs := hb2.size
  have hh4 : w4.heap[H]? = some (.cells #[vp, .int .u64 lost, vt] 104 (0, 0)) := by
    rw [hg.block H (by omega) (fun e => ?_), hb2.block H hHl]
    · exact hh
    · rcases ht.ne_hand hh with h | h
      · rw [h] at e; cases e
      · exact h e.symm
  refine ⟨HandR.setTold (told := told) hBH hh4 ((hp.below hb2).kept hg hnb ?_) h4 ?_, ?_, by rw [cell_of_heap hh4]; rfl, free_of_heap hh4⟩
  · cases hv : vp.ownBlock with
    | none => exact .inl rfl
    | some k => exact .inr (fun e => hne k hv e.symm)
  · intro b e e2
    simp [Value.ownBlock] at e2
    subst e2
    rcases hat with h | h
    · exact hne g e h
    · have := (hp.lt g e).2
      omega
  · exact ((Fr.of_below hB hb2).trans (Fr.grown hg (by omega) (ht.below hb2).type)).trans (Fr.set hBH hh4 (.inr rfl) 2 _)
set_option maxHeartbeats 4000000 in
theorem take_calls (B H : Nat) (ps told : List Pc) (lost : Int) (kind bit : Int) (m : W32) (k : Nat) (W : World) (hR : HandR B H ps lost told W) (hB : B ≤ W.heap.size) (hk : k < ps.length) (hn : ps.length ≤ 64) (htl : told.length ≤ 1000000) :
    Calls Try.prog 105 #[.pointer (some ⟨H, 0, none⟩), trickV kind k bit m] W fun e w' => e = .returned (.tuple #[]) ∧ HandR B H (ps.eraseIdx k) lost (told ++ [pcAt ps k]) w' ∧ Fr B W w' := by
  obtain ⟨W1, hW1⟩ : ∃ W1, W.alloc (.cells #[.int .i64 kind, .int .i64 k, .int .i64 bit, .int .u32 (nb m)] 48) = W1 := ⟨_, rfl⟩
  have hb1 : Below W.heap.size W W1 := by rw [← hW1]; exact below_al (Below.refl _ _) _
  have hz1 : W1.heap.size = W.heap.size + 1 := by rw [← hW1]; simp
  have hbox : W1.heap[W.heap.size]? = some (.cells #[.int .i64 kind, .int .i64 k, .int .i64 bit, .int .u32 (nb m)] 48 (0, 0)) := by rw [← hW1]; exact new_here W _
  have hR1 := hR.below hb1
  obtain ⟨g, c1, A2, c2, A', c', hEF⟩ := elem_facts hR1 hk
  obtain ⟨hBH, vp, vt, hh, hp, ht, hne⟩ := hR1
  obtain rfl : vt = .slice A2 told.length c2 := by have := hEF.c2; rw [cell_of_heap hh] at this; simpa using this
  have HK : Hid (∀ X, Below W1.heap.size W1 X → EF B H ps told k X g c1 A2 c2 A' c' ∧ X.cell? ⟨W.heap.size, 1, none⟩ = some (.int .i64 k) ∧ OwnPs X B (.slice A2 told.length c2) told ∧ B ≤ X.heap.size) := Lib.hid (fun X hX => ⟨hEF.below hX, cell_of_heap ((hX.block W.heap.size (by omega)).trans hbox), ht.below hX, by have := hX.size; omega⟩)
  have HE := Lib.hid (fun (W2 w4 : World) (g cap : Nat) => take_end (W2 := W2) (w4 := w4) (p := pcAt ps k) (g := g) (cap := cap) hBH (by omega : B ≤ W1.heap.size) hh hp ht hne)
  have HCUT := Lib.hid (fun (X : World) (hX : HandR B H ps lost (told ++ [pcAt ps k]) X) (hB : B ≤ X.heap.size) => cut_calls B H ps (told ++ [pcAt ps k]) lost k X hX hB hk hn)
  have HF := Lib.hid (Fr.of_below hB hb1)
  have HW1 := Lib.hid hW1
  have HBOX := Lib.hid hbox
  have HBS : Hid (B ≤ W1.heap.size) := Lib.hid (by omega)
  have i0 : (0 : Int) ≤ (k : Int) := by omega
  have i1 : (k : Int) < (ps.length : Int) := by omega
  clear hz1 hW1 hbox hEF hh hp ht hne hb1 hR
  go_enter Try.func105, Try.ntmps105
  go_wp2
  rw [HW1.out]
  obtain ⟨hef, q1, _, _⟩ := HK.out W1 (Below.refl _ _)
  obtain ⟨r0, r2, rf, rx0, rx1, rx2, _, _, _, _, _⟩ := hef
  have htl' := Lib.hid htl
  go_region_law (refine step_appP (by rfl) (.tmp 8) (.tmp 18) (by rfl) B _ told (by rfl) (HK.out _ (by repeat (first | exact Below.refl _ _ | apply below_dr | apply below_al))).2.2.1 W1.heap.size (pcAt ps k) (.slice A' (pcAt ps k).bytes.length c') 36 (0, 0) (by rfl) (new_here W1 _) (HK.out _ (by repeat (first | exact Below.refl _ _ | apply below_dr | apply below_al))).1.own htl'.out (HK.out _ (by repeat (first | exact Below.refl _ _ | apply below_dr | apply below_al))).2.2.2 (W1.heap.size + 1) (by simp) ?_; intro g' cap' w4 h4 hgrow hnb hat hlt; (have hE := HE.out _ w4 g' cap' (by repeat (first | exact Below.refl _ _ | apply below_dr | apply below_al)) h4 hgrow hnb (hat.imp id (fun h => h.trans (by simp)))); (obtain ⟨hE1, hE2, hE3, hE4⟩ := hE); (obtain ⟨vv, hvv⟩ := Option.isSome_iff_exists.1 hE3))
  all_goals
    have hs9 : B ≤ (w4.setCell ⟨H, 2, none⟩ (.slice (some ⟨g', 0, none⟩) (told.length + 1) cap')).heap.size := Nat.le_trans HBS.out hE2.size
    have hx9 := cell_of_heap (k := 1) (hE2.keep _ _ _ _ HBOX.out (by decide) (by decide))
    generalize w4.setCell ⟨H, 2, none⟩ (.slice (some ⟨g', 0, none⟩) (told.length + 1) cap') = W5 at *
    simp only [List.getElem?_toArray, List.getElem?_cons_zero, List.getElem?_cons_succ] at hx9
    have HE1 := Lib.hid hE1
    have HE2 := Lib.hid hE2
    clear hE1 hE2 hE3 hE4 hvv h4 hgrow hnb hat
    go_wp2_with (go_at_call 121; (with_reducible refine (HCUT.out _ HE1.out hs9).mono ?_); rintro e w6 ⟨rfl, hr, hf⟩)
    go_end0
    exact ⟨rfl, hr, HF.out.trans (HE2.out.trans hf)⟩
end Go.Proofs.Ytnhmhnejglpijaa
