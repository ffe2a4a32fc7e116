/- net: Run: the walk. -/
import Derived.Test.YtnhmhnejglpijaaNs
import Derived.Deep.RegionHeld3
namespace Go.Proofs.Ytnhmhnejglpijaa
open Go.RowKit
set_option maxRecDepth 100000
set_option linter.unusedSimpArgs false
set_option linter.unusedVariables false
/-- behind Run's tries -/
def RunMid (w : World) (ps : List Pc) (lost : Int) (e : Ending) (w' : World) : Prop :=
  ∃ H B, e = .returned (.int .i64 0) ∧ w.heap.size + 4 ≤ B ∧ B ≤ w'.heap.size ∧ HandR B H ps lost [] w' ∧ w'.heap[w.heap.size + 1 + 1]? = some (.cells #[.pointer (some ⟨H, 0, none⟩)] 98 (0, 0)) ∧
    w'.heap[w.heap.size + 1]? = some (.cells #[.slice none 0 0, .int .u64 0] 27 (0, 0)) ∧ Below w.heap.size w w'
theorem run_mid (vp : Value) (ps : List Pc) (lost : Int) (w : World) (hp : Pcs w vp ps) (hr : rightB ps lost = true) :
    Calls Try.prog 59 #[.func (.func 74) #[] #[.pointer (some ⟨w.heap.size, 0, none⟩), .pointer (some ⟨w.heap.size + 1 + 1, 0, none⟩)]] (runW w vp lost) (RunMid w ps lost) := by
  obtain ⟨W4, hW4⟩ : ∃ W4, runW w vp lost = W4 := ⟨_, rfl⟩
  obtain ⟨g0, g1, g2⟩ := new_three w (.cells #[vp, .int .u64 lost] 27) (.cells #[.slice none 0 0, .int .u64 0] 27) (.cells #[.pointer none] 98)
  have hz4 : W4.heap.size = w.heap.size + 3 := by rw [← hW4]; simp
  have hb4 : Below w.heap.size w W4 := by rw [← hW4]; exact below_al (below_al (below_al (Below.refl _ _) _) _) _
  rw [show ((w.alloc (.cells #[vp, .int .u64 lost] 27)).alloc (.cells #[.slice none 0 0, .int .u64 0] 27)).alloc (.cells #[.pointer none] 98) = W4 from hW4] at g0 g1 g2
  rw [hW4]
  have hb5 : Below W4.heap.size W4 (W4.alloc (.cells #[.int .i64 0] 28)) := below_al (Below.refl _ _) _
  have heb := new_here W4 (.cells #[.int .i64 0] 28)
  have k0 := (hb5.block _ (lt_of_heap g0)).trans g0
  have k1 := (hb5.block _ (lt_of_heap g1)).trans g1
  have k2 := (hb5.block _ (lt_of_heap g2)).trans g2
  have h45 : Below w.heap.size w (W4.alloc (.cells #[.int .i64 0] 28)) := below_tr hb4 hb5
  generalize hW5 : W4.alloc (.cells #[.int .i64 0] 28) = W5 at *
  have hz5 : W4.heap.size < W5.heap.size := lt_of_heap heb
  have hc := rclo_calls vp ps lost _ _ W5 k0 k2 (hp.below h45) hr
  refine (tries_calls 74 _ W4 (fun k w1 => k = 0 ∧ ∃ wq H, HandR W5.heap.size H ps lost [] wq ∧ Below W5.heap.size W5 wq ∧ w1 = wq.setCell ⟨w.heap.size + 1 + 1, 0, none⟩ (.pointer (some ⟨H, 0, none⟩))) e74 (by rw [hW5]; exact hc.mono fun e w' ⟨h1, h2⟩ => .inl ⟨h1, rfl, h2⟩) ?_).mono ?_
  · rintro k w1 ⟨_, wq, H, _, hb, rfl⟩
    exact heap_set_other ((hb.block _ (lt_of_heap heb)).trans heb) (by omega)
  · rintro e w' ⟨k, w1, ⟨rfl, wq, H, hh, hb, rfl⟩, rfl, rfl⟩
    have p2 := (hb.block _ (lt_of_heap k2)).trans k2
    have q2 := heap_setCell_same wq (w.heap.size + 1 + 1) 0 (.pointer (some ⟨H, 0, none⟩)) _ _ _ p2
    simp only [List.setIfInBounds_toArray, List.set_cons_zero] at q2
    have pe := heap_set_other (k := 0) (v := .pointer (some ⟨H, 0, none⟩)) ((hb.block _ (lt_of_heap heb)).trans heb) (show W4.heap.size ≠ w.heap.size + 1 + 1 by omega)
    have hs := hb.size
    refine ⟨H, W5.heap.size, rfl, by omega, by simp [World.setCell]; exact hs, (hh.set p2 (by decide) (by decide) (by decide)).set pe (by decide) (by decide) (by decide), heap_set_other q2 (by omega), heap_set_other (heap_set_other ((hb.block _ (lt_of_heap k1)).trans k1) (by omega)) (by omega), ?_⟩
    exact ((below_tr h45 hb).setCell (p := ⟨w.heap.size + 1 + 1, 0, none⟩) (by show w.heap.size ≤ w.heap.size + 1 + 1; omega) _).setCell (p := ⟨W4.heap.size, 0, none⟩) hb4.size _
def RunRes (w : World) (r : Int × RS) (e : Ending) (w' : World) : Prop :=
  ∃ A c A2 c2, e = .returned (.tuple #[.agg #[.slice A r.2.ps.length c, .int .u64 r.2.lost], .slice A2 r.2.told.length c2, .int .i64 r.2.over, .int .i64 r.1]) ∧ OwnPs w' w.heap.size (.slice A r.2.ps.length c) r.2.ps ∧ OwnPs w' w.heap.size (.slice A2 r.2.told.length c2) r.2.told ∧ Below w.heap.size w w'
set_option maxHeartbeats 4000000 in
theorem run_ok (vp vl : Value) (ps : List Pc) (lost : Int) (ts : List Tk) (w : World) (hp : Pcs w vp ps) (ht : Tks w vl ts) (h0 : 0 ≤ lost) (hr : rightB ps lost = true) (htn : ts.length ≤ 1000) :
    Calls Try.prog 28 #[.agg #[vp, .int .u64 lost], vl] w (RunRes w (0, runAll ts ⟨ps, lost, [], 0⟩)) := by
  have hmf : ∀ (fn : Fn) (first cap : Array Value) (w : World), (Instr.makeFunc fn first cap).run Try.prog w = .ok (.func fn first cap) w := fun _ _ _ _ => rfl
  obtain ⟨A1, c1, rfl, _⟩ := hp.len
  have HM := Lib.hid (run_mid _ ps lost w hp hr)
  obtain ⟨A2, c2, rfl, t1, t2, t3⟩ := ht
  unfold maxLen at t2
  have HC := Lib.hid t3
  have HOK := Lib.hid (runAll_ok (netOk_of hr h0) ts)
  clear hp t3 hr
  go_enter Try.func28, Try.ntmps28
  go_wp2_with (go_at_call 59; (with_reducible refine HM.out.mono ?_); rintro e w5 ⟨H, B, rfl, hB, hBs, hh, hptr, hres, hb⟩)
  have HH := Lib.hid (show HandR B H (runAll (ts.take 0) ⟨ps, lost, [], 0⟩).ps (runAll (ts.take 0) ⟨ps, lost, [], 0⟩).lost (runAll (ts.take 0) ⟨ps, lost, [], 0⟩).told w5 ∧ Fr B w5 w5 from ⟨by simpa [runAll] using hh, Fr.refl _ _⟩)
  have HP := Lib.hid hptr
  have HRES := Lib.hid hres
  have HBB := Lib.hid hb
  clear hh hptr hres hb
  go_loopw [21, 10, 12] (fun i ov _ wr => ∃ k : Nat, k ≤ ts.length ∧ i = .int .i64 k ∧ ov = .int .i64 (runAll (ts.take k) ⟨ps, lost, [], 0⟩).over ∧ Hid (HandR B H (runAll (ts.take k) ⟨ps, lost, [], 0⟩).ps (runAll (ts.take k) ⟨ps, lost, [], 0⟩).lost (runAll (ts.take k) ⟨ps, lost, [], 0⟩).told wr ∧ Fr B w5 wr)) (fun i _ _ _ => ts.length - (intOf i).toNat)
  case atStart => exact ⟨0, Nat.zero_le _, rfl, by simp [runAll], HH⟩
  case round =>
    obtain ⟨k, hk, rfl, rfl, hrel⟩ := hrel
    by_cases hlt : k < ts.length
    · have hd : decide (k < ts.length) = true := by simpa using hlt
      obtain ⟨b, off, rfl, hcell⟩ := HC.out (by omega)
      obtain ⟨k1, k2, k3, k4⟩ := hcell k hlt
      have hbw : Below w.heap.size w wr := HBB.out.trans (hrel.out.2.below.mono (by omega))
      have d1 := (hbw.cell (p := ⟨b, off + k * 4, none⟩) (World.block_lt_of_cell? w _ k1)).trans k1
      have d2 := (hbw.cell (p := ⟨b, off + k * 4 + 1, none⟩) (World.block_lt_of_cell? w _ k2)).trans k2
      have d3 := (hbw.cell (p := ⟨b, off + k * 4 + 2, none⟩) (World.block_lt_of_cell? w _ k3)).trans k3
      have d4 := (hbw.cell (p := ⟨b, off + k * 4 + 3, none⟩) (World.block_lt_of_cell? w _ k4)).trans k4
      have hpt := (hrel.out.2.keep _ _ _ _ HP.out (by decide) (by decide))
      have i0 : (0 : Int) ≤ (k : Int) := by omega
      have i1 : (k : Int) < (ts.length : Int) := by omega
      have hsk := runAll_succ ts ⟨ps, lost, [], 0⟩ k hlt
      obtain ⟨o1, o2, o3, o4⟩ := HOK.out k hk
      generalize tkAt ts k = t at *
      generalize hs0 : runAll (ts.take k) ⟨ps, lost, [], 0⟩ = s at *
      obtain ⟨W1, hW1⟩ : ∃ W1, wr.alloc (.cells #[.int .i64 t.kind, .int .i64 t.at_, .int .i64 t.bit, .int .u32 (nb t.mask)] 48) = W1 := ⟨_, rfl⟩
      have hb9 : Below wr.heap.size wr W1 := by rw [← hW1]; exact below_al (Below.refl _ _) _
      have ptr1 : W1.cell? ⟨w.heap.size + 1 + 1, 0, none⟩ = some (.pointer (some ⟨H, 0, none⟩)) := cell_of_heap ((hb9.block _ (lt_of_heap hpt)).trans hpt)
      have hbs : B ≤ W1.heap.size := by have := hrel.out.2.size; have := hb9.size; omega
      have hcall := does_calls B H s.ps s.told s.lost t.kind t.at_ t.bit t.mask W1 (hrel.out.1.below hb9) hbs o1 (by omega)
      have HF9 := Lib.hid (hrel.out.2.then_ hBs hb9)
      have HCALL := Lib.hid hcall
      have HSK := Lib.hid hsk
      have HW1 := Lib.hid hW1
      have HO3 := Lib.hid o3
      have HO4 := Lib.hid o4
      rw [← hW1] at ptr1
      have hz : (doesP s.ps s.lost s.told t.kind t.at_ t.bit t.mask).1 = 0 ∨ (doesP s.ps s.lost s.told t.kind t.at_ t.bit t.mask).1 ≠ 0 := Decidable.em _
      clear hcell k1 k2 k3 k4 hbw hpt hsk hb9 hbs hcall hW1 o1 o2 hs0
      rcases hz with hz | hz
      · have hx : ((doesP s.ps s.lost s.told t.kind t.at_ t.bit t.mask).1 != 0) = false := by simp [hz]
        have HSK2 : Hid (runAll (ts.take (k + 1)) ⟨ps, lost, [], 0⟩ = ⟨(doesP s.ps s.lost s.told t.kind t.at_ t.bit t.mask).2.1, (doesP s.ps s.lost s.told t.kind t.at_ t.bit t.mask).2.2.1, (doesP s.ps s.lost s.told t.kind t.at_ t.bit t.mask).2.2.2, s.over⟩) := Lib.hid (by rw [HSK.out, runStep, if_pos hz])
        generalize doesP s.ps s.lost s.told t.kind t.at_ t.bit t.mask = r at *
        clear hz
        go_wp2_with (go_at_call 70; rw [HW1.out]; (with_reducible refine HCALL.out.mono ?_); rintro e w7 ⟨rfl, hr7, hf7⟩)
        have HN : Hid (HandR B H (runAll (ts.take (k + 1)) ⟨ps, lost, [], 0⟩).ps (runAll (ts.take (k + 1)) ⟨ps, lost, [], 0⟩).lost (runAll (ts.take (k + 1)) ⟨ps, lost, [], 0⟩).told w7 ∧ Fr B w5 w7) := Lib.hid ⟨by rw [HSK2.out]; exact hr7, HF9.out.trans hf7⟩
        clear hr7 hf7
        go_roundw
        case rel => exact ⟨k + 1, by omega, by go_num, by rw [HSK2.out], HN⟩
        case measure => simp [intOf]; omega
      · have hx : ((doesP s.ps s.lost s.told t.kind t.at_ t.bit t.mask).1 != 0) = true := by simp [hz]
        have HSK2 : Hid (runAll (ts.take (k + 1)) ⟨ps, lost, [], 0⟩ = ⟨(doesP s.ps s.lost s.told t.kind t.at_ t.bit t.mask).2.1, (doesP s.ps s.lost s.told t.kind t.at_ t.bit t.mask).2.2.1, (doesP s.ps s.lost s.told t.kind t.at_ t.bit t.mask).2.2.2, s.over + 1⟩) := Lib.hid (by rw [HSK.out, runStep, if_neg hz])
        generalize doesP s.ps s.lost s.told t.kind t.at_ t.bit t.mask = r at *
        clear hz
        have ho : s.over ≤ 1000 := by omega
        go_wp2_with (go_at_call 70; rw [HW1.out]; (with_reducible refine HCALL.out.mono ?_); rintro e w7 ⟨rfl, hr7, hf7⟩)
        have HN : Hid (HandR B H (runAll (ts.take (k + 1)) ⟨ps, lost, [], 0⟩).ps (runAll (ts.take (k + 1)) ⟨ps, lost, [], 0⟩).lost (runAll (ts.take (k + 1)) ⟨ps, lost, [], 0⟩).told w7 ∧ Fr B w5 w7) := Lib.hid ⟨by rw [HSK2.out]; exact hr7, HF9.out.trans hf7⟩
        clear hr7 hf7
        go_roundw
        case rel => exact ⟨k + 1, by omega, by go_num, by rw [HSK2.out], HN⟩
        case measure => simp [intOf]; omega
    · have hd : decide (k < ts.length) = false := by simpa using hlt
      have hk2 : k = ts.length := by omega
      subst hk2
      obtain ⟨hR, hF⟩ := hrel.out
      have hov : (runAll (ts.take ts.length) ⟨ps, lost, [], 0⟩).over = (runAll ts ⟨ps, lost, [], 0⟩).over := by rw [List.take_length]
      rw [List.take_length] at hR
      have hpt := (hF.keep _ _ _ _ HP.out (by decide) (by decide))
      have hrs := (hF.keep _ _ _ _ HRES.out (by decide) (by decide))
      have hbw : Below w.heap.size w wr := HBB.out.trans (hF.below.mono (by omega))
      obtain ⟨hBH, vp', vt', hh, hp, ht, hne⟩ := hR
      rw [hov]
      generalize hse : runAll ts ⟨ps, lost, [], 0⟩ = s at *
      have HSE := Lib.hid hse
      obtain ⟨A5, c5, rfl, _⟩ := hp.shape
      obtain ⟨A6, c6, rfl, _⟩ := ht.shape
      have p0 : wr.cell? ⟨w.heap.size + 1 + 1, 0, none⟩ = some (.pointer (some ⟨H, 0, none⟩)) := cell_of_heap hpt
      have z0 : wr.cell? ⟨H, 0, none⟩ = some (.slice A5 s.ps.length c5) := cell_of_heap hh
      have z1 : wr.cell? ⟨H, 1, none⟩ = some (.int .u64 s.lost) := cell_of_heap hh
      have z2 : wr.cell? ⟨H, 2, none⟩ = some (.slice A6 s.told.length c6) := cell_of_heap hh
      have r0 : wr.cell? ⟨w.heap.size + 1, 0, none⟩ = some (.slice none 0 0) := cell_of_heap hrs
      have r1 : wr.cell? ⟨w.heap.size + 1, 1, none⟩ = some (.int .u64 0) := cell_of_heap hrs
      have f0 : wr.frozen? ⟨w.heap.size + 1, 0, none⟩ = false := free_of_heap hrs
      have f1 : wr.frozen? ⟨w.heap.size + 1, 1, none⟩ = false := free_of_heap hrs
      have hn1 : ¬ H = w.heap.size + 1 := by omega
      have hn2 : ¬ w.heap.size + 1 = H := by omega
      have HPP := Lib.hid hp
      have HTT := Lib.hid ht
      have HRS := Lib.hid hrs
      have HBW := Lib.hid hbw
      clear hse hov hh hp ht hne hpt hrs hbw hF
      go_wp2_with fail
      go_region_law (fail)
      all_goals go_wp2
      all_goals
        refine bodyPost_ret (v := .tuple #[.agg #[.slice A5 s.ps.length c5, .int .u64 s.lost], .slice A6 s.told.length c6, .int .i64 s.over, .int .i64 0]) (by simp [results, Try.results28, go_sem, r0, r1]) rfl ?_
        unfold RunRes
        try rw [HSE.out]
        have hr1 := heap_setCell_same wr (w.heap.size + 1) 0 (.slice A5 s.ps.length c5) _ _ _ HRS.out
        simp only [List.setIfInBounds_toArray, List.set_cons_zero] at hr1
        refine ⟨A5, c5, A6, c6, rfl, ?_, ?_, ?_⟩
        · exact ((((HPP.out.set HRS.out (by decide) (by decide)).set hr1 (by decide) (by decide))).base (by omega)).below (below_dr (Below.refl _ _))
        · exact ((((HTT.out.set HRS.out (by decide) (by decide)).set hr1 (by decide) (by decide))).base (by omega)).below (below_dr (Below.refl _ _))
        · exact ((HBW.out.setCell (p := ⟨w.heap.size + 1, 0, none⟩) (by show w.heap.size ≤ w.heap.size + 1; omega) _).setCell (p := ⟨w.heap.size + 1, 1, none⟩) (by show w.heap.size ≤ w.heap.size + 1; omega) _).drew
theorem run_mid_no (vp : Value) (ps : List Pc) (lost : Int) (w : World) (hp : Pcs w vp ps) (hr : rightB ps lost = false) :
    Calls Try.prog 59 #[.func (.func 74) #[] #[.pointer (some ⟨w.heap.size, 0, none⟩), .pointer (some ⟨w.heap.size + 1 + 1, 0, none⟩)]] (runW w vp lost) fun e w' => e = .returned (.int .i64 350) ∧ w'.heap[w.heap.size + 1]? = some (.cells #[.slice none 0 0, .int .u64 0] 27 (0, 0)) ∧ Below w.heap.size w w' := by
  obtain ⟨W4, hW4⟩ : ∃ W4, runW w vp lost = W4 := ⟨_, rfl⟩
  obtain ⟨g0, g1, g2⟩ := new_three w (.cells #[vp, .int .u64 lost] 27) (.cells #[.slice none 0 0, .int .u64 0] 27) (.cells #[.pointer none] 98)
  have hz4 : W4.heap.size = w.heap.size + 3 := by rw [← hW4]; simp
  have hb4 : Below w.heap.size w W4 := by rw [← hW4]; exact below_al (below_al (below_al (Below.refl _ _) _) _) _
  rw [show ((w.alloc (.cells #[vp, .int .u64 lost] 27)).alloc (.cells #[.slice none 0 0, .int .u64 0] 27)).alloc (.cells #[.pointer none] 98) = W4 from hW4] at g0 g1 g2
  rw [hW4]
  have hb5 : Below W4.heap.size W4 (W4.alloc (.cells #[.int .i64 0] 28)) := below_al (Below.refl _ _) _
  have heb := new_here W4 (.cells #[.int .i64 0] 28)
  have k0 := (hb5.block _ (lt_of_heap g0)).trans g0
  have k1 := (hb5.block _ (lt_of_heap g1)).trans g1
  have h45 : Below w.heap.size w (W4.alloc (.cells #[.int .i64 0] 28)) := below_tr hb4 hb5
  generalize hW5 : W4.alloc (.cells #[.int .i64 0] 28) = W5 at *
  have hc := rclo_no vp ps lost _ (w.heap.size + 1 + 1) W5 k0 (hp.below h45) hr
  refine (tries_calls 74 _ W4 (fun k w1 => k = 350 ∧ Below W5.heap.size W5 w1) e74 (by rw [hW5]; exact hc.mono fun e w' ⟨h1, h2⟩ => .inr ⟨350, h1, rfl, h2⟩) (fun k w1 ⟨_, h⟩ => (h.block _ (lt_of_heap heb)).trans heb)).mono ?_
  rintro e w' ⟨k, w1, ⟨rfl, hb⟩, rfl, rfl⟩
  exact ⟨rfl, heap_set_other ((hb.block _ (lt_of_heap k1)).trans k1) (by omega), (below_tr h45 hb).setCell (p := ⟨W4.heap.size, 0, none⟩) hb4.size _⟩
theorem run_no (vp vl : Value) (ps : List Pc) (lost : Int) (w : World) (hp : Pcs w vp ps) (hr : rightB ps lost = false) :
    Calls Try.prog 28 #[.agg #[vp, .int .u64 lost], vl] w (RunRes w (350, ⟨[], 0, [], 0⟩)) := by
  have hmf : ∀ (fn : Fn) (first cap : Array Value) (w : World), (Instr.makeFunc fn first cap).run Try.prog w = .ok (.func fn first cap) w := fun _ _ _ _ => rfl
  obtain ⟨A1, c1, rfl, _⟩ := hp.len
  have HM := Lib.hid (run_mid_no _ ps lost w hp hr)
  clear hp hr
  go_enter Try.func28, Try.ntmps28
  go_wp2_with (go_at_call 59; (with_reducible refine HM.out.mono ?_); rintro e w5 ⟨rfl, hres, hb⟩; (have r0 : w5.cell? ⟨w.heap.size + 1, 0, none⟩ = some (.slice none 0 0) := cell_of_heap hres); (have r1 : w5.cell? ⟨w.heap.size + 1, 1, none⟩ = some (.int .u64 0) := cell_of_heap hres); (have f0 : w5.frozen? ⟨w.heap.size + 1, 0, none⟩ = false := free_of_heap hres); (have f1 : w5.frozen? ⟨w.heap.size + 1, 1, none⟩ = false := free_of_heap hres))
  refine bodyPost_ret (v := .tuple #[.agg #[.slice none 0 0, .int .u64 0], .slice none 0 0, .int .i64 0, .int .i64 350]) (by simp [results, Try.results28, go_sem, r0, r1]) rfl ⟨none, 0, none, 0, rfl, OwnPs.nil _ _, OwnPs.nil _ _, ?_⟩
  exact (hb.setCell (p := ⟨w.heap.size + 1, 0, none⟩) (by show w.heap.size ≤ w.heap.size + 1; omega) _).setCell (p := ⟨w.heap.size + 1, 1, none⟩) (by show w.heap.size ≤ w.heap.size + 1; omega) _
theorem run_calls (vp vl : Value) (ps : List Pc) (lost : Int) (ts : List Tk) (w : World) (hp : Pcs w vp ps) (ht : Tks w vl ts) (h0 : 0 ≤ lost) (htn : ts.length ≤ 1000) :
    Calls Try.prog 28 #[.agg #[vp, .int .u64 lost], vl] w (RunRes w (runN ps lost ts)) := by
  unfold runN
  by_cases hr : rightB ps lost = true
  · rw [if_pos hr]
    exact run_ok vp vl ps lost ts w hp ht h0 hr htn
  · rw [if_neg hr]
    exact run_no vp vl ps lost w hp (by simpa using hr)
end Go.Proofs.Ytnhmhnejglpijaa
