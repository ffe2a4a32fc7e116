/- law25: NetOrders: the walk where the parcels can be sent. -/
import Derived.Test.YtnhmhnejglpijaaOb
namespace Go.Proofs.Ytnhmhnejglpijaa
open Go.RowKit
set_option maxRecDepth 100000
set_option linter.unusedSimpArgs false
set_option linter.unusedVariables false
set_option maxHeartbeats 4000000 in
theorem orders_yes (A : Option Addr) (c m : Nat) (ps : List Pc) (site : Int) (w : World) (hv : Pcs w (.slice A ps.length c) ps) (hc : ps.length ≤ c) (hcc : c ≤ 9223372036854775807) (hm : min ps.length 70 = m) (hq : (fewP (ps.take m) (min (ps.take m).length 66)).all sendable = true) :
    Calls Try.prog 3 #[.slice A ps.length c, .int .i64 site] w fun e w' => e = .returned (.bool true) ∧ Below w.heap.size w w' := by
  have hm1 : min (ps.length : Int) 70 = (m : Int) := by omega
  have hm2 : (m : Int) ≤ (c : Int) := by omega
  have hm3 : (0 : Int) ≤ (m : Int) := by omega
  have HV := Lib.hid (hv.take m (by omega))
  have hlen : (fewP (ps.take m) (min (ps.take m).length 66)).length ≤ 66 := by rw [fewP_length _ _ (Nat.min_le_left _ _)]; omega
  obtain ⟨q, hqq⟩ : ∃ q, fewP (ps.take m) (min (ps.take m).length 66) = q := ⟨_, rfl⟩
  rw [hqq] at hq hlen
  have HQQ := Lib.hid hqq
  obtain ⟨n, hn⟩ : ∃ n, q.take 64 = n := ⟨_, rfl⟩
  obtain ⟨L, hL⟩ : ∃ L : Int, ((q.length - 64 : Nat) : Int) = L := ⟨_, rfl⟩
  have hnl : n.length = min 64 q.length := by rw [← hn, List.length_take]
  have hsn : sendN [] 0 q = (0, n, L) := by rw [sendN_all q (by omega), if_pos hq, hn, hL]
  have hrt : rightB n L = true := by rw [← hn]; exact right_sent q L hq (by omega)
  have hem : emptyN n L = (0, ⟨[], L, n, 0⟩) := emptyN_all n L hrt
  have hk : min (q.length : Int) 64 = (n.length : Int) := by omega
  have hL0 : 0 ≤ L := by omega
  have hcv : IntKind.i64.wrap L = L := by rw [IntKind.wrap_i64]; omega
  have hsb : IntKind.i64.wrap ((q.length : Int) - (n.length : Int)) = L := by rw [IntKind.wrap_i64]; omega
  have HSN := Lib.hid hsn
  have HRT := Lib.hid hrt
  have HEM := Lib.hid hem
  have HL0 := Lib.hid hL0
  have HNL : Hid (n.length ≤ 64 ∧ n.length ≤ q.length) := Lib.hid ⟨by omega, by omega⟩
  have HNQ := Lib.hid hn
  have HSP : Hid (∀ k, k < n.length → (pcAt n k).sp = false ∧ pcAt n k = pcAt q k) := Lib.hid fun k hk => by
    rw [← hn] at hk ⊢
    rw [List.length_take] at hk
    rw [pcAt_take q 64 k (by omega)]
    refine ⟨?_, rfl⟩
    have := (List.all_eq_true.1 hq) (pcAt q k) (pcAt_mem (by omega))
    simp only [sendable, Bool.and_eq_true, Bool.not_eq_true'] at this
    exact this.2
  clear hv hq hlen hqq hsn hm hn hL hnl hrt hem hL0
  go_enter Try.func3, Try.ntmps3
  go_wp2_with (first
    | (go_at_call 11; (with_reducible refine (wakes_calls _).mono ?_); rintro e w1 ⟨rfl, hb1⟩; (have HB1 := Lib.hid (below_tr (below_al (Below.refl _ w) (.cells #[.int .i64 site] 3)) hb1)); (have HS1 := Lib.hid ((hb1.block _ (lt_of_heap (new_here w (.cells #[.int .i64 site] 3)))).trans (new_here w (.cells #[.int .i64 site] 3)))); (clear hb1))
    | (go_at_call 12; (with_reducible refine (few_calls _ _ _ (HV.out.below HB1.out)).mono ?_); (rw [HQQ.out]); rintro e w2 ⟨v2, rfl, ho2, hb2⟩; (obtain ⟨A2, c2, rfl, _⟩ := ho2.shape); (have HB2 := Lib.hid (below_tr HB1.out hb2)); (have HS2 := Lib.hid ((hb2.block _ (lt_of_heap HS1.out)).trans HS1.out)); (have HO2 := Lib.hid ho2); (clear ho2 hb2))
    | (go_at_call 14; (with_reducible refine (new_calls _).mono ?_); rintro e w3 ⟨rfl, hb3⟩; (have HB3 := Lib.hid (below_tr HB2.out hb3)); (have HS3 := Lib.hid ((hb3.block _ (lt_of_heap HS2.out)).trans HS2.out)); (have HO3 := Lib.hid (HO2.out.below hb3)); (clear hb3))
    | (go_at_call 13; (with_reducible refine (sendnet_calls _ _ [] q 0 _ (pcs_nil _) HO3.out.pcs (Int.le_refl _)).mono ?_); (rw [HSN.out]); rintro e w4 ⟨A4, c4, rfl, ho4, hb4⟩; (have HB4 := Lib.hid (below_tr HB3.out hb4)); (have HS4 := Lib.hid ((hb4.block _ (lt_of_heap HS3.out)).trans HS3.out)); (have HP4 := Lib.hid (HO3.out.pcs.below hb4)); (have HO5 : Hid (Pcs (w4.alloc (.cells #[.slice A4 n.length c4, .int .u64 L] 27)) (.slice A4 n.length c4) n) := Lib.hid (ho4.pcs.below (below_al (Below.refl _ _) _))); (clear ho4 hb4))
    | (go_at_call 15; (with_reducible refine (empty_calls _ n L _ HO5.out HL0.out HNL.out.1).mono ?_); (rw [HEM.out]); rintro e w6 ⟨A6, c6, A6', c6', rfl, ho6, hq6, hb6⟩; (have HB6 := Lib.hid (below_tr (below_al HB4.out _) hb6)); (have HS6 := Lib.hid ((hb6.block _ (lt_of_heap (new_next w4 _ HS4.out))).trans (new_next w4 _ HS4.out))); (have HP6 := Lib.hid ((HP4.out.below (below_al (Below.refl _ _) _)).below hb6)); (have HN6 := Lib.hid (HO5.out.below hb6)); (have HQ6 := Lib.hid hq6.pcs); (have HT6 := Lib.hid ((hb6.block _ (lt_of_heap (new_here w4 _))).trans (new_here w4 _))); (have x5 : (w6.alloc (.cells #[.slice A6 0 c6, .int .u64 L] 27)).cell? ⟨w4.heap.size, 1, none⟩ = some (.int .u64 L) := cell_of_heap (new_next w6 _ HT6.out)); (clear ho6 hq6 hb6)))
  obtain ⟨W7, hW7⟩ : ∃ W7, w6.alloc (.cells #[.slice A6 0 c6, .int .u64 L] 27) = W7 := ⟨_, rfl⟩
  have hb67 : Below w6.heap.size w6 W7 := by rw [← hW7]; exact below_al (Below.refl _ _) _
  rw [hW7]
  have HB7 := Lib.hid (below_tr HB6.out hb67)
  have HS7 := Lib.hid ((hb67.block _ (lt_of_heap HS6.out)).trans HS6.out)
  have HP7 := Lib.hid (HP6.out.below hb67)
  have HN7 := Lib.hid (HN6.out.below hb67)
  have HQ7 := Lib.hid (HQ6.out.below hb67)
  have HT7 := Lib.hid ((hb67.block _ (lt_of_heap HT6.out)).trans HT6.out)
  clear hW7 hb67 x5 HB1 HS1 HB2 HS2 HO2 HB3 HS3 HO3 HB4 HS4 HP4 HO5 HB6 HS6 HP6 HN6 HQ6 HT6 HEM HSN HQQ HV
  go_loopw [10, 11, 74] (fun _ _ i wr => ∃ k : Nat, k ≤ n.length ∧ i = .int .i64 k ∧ Hid (Below W7.heap.size W7 wr)) (fun _ _ i _ => n.length - (intOf i).toNat)
  case atStart => exact ⟨0, Nat.zero_le _, rfl, Lib.hid (Below.refl _ _)⟩
  case round =>
    obtain ⟨k, hk, rfl, hrel⟩ := hrel
    by_cases hlt : k < n.length
    · have hd : decide (k < n.length) = true := by simpa using hlt
      obtain ⟨T1, tc, te, th1, th2, th3⟩ := HQ7.out.below hrel.out
      cases te
      obtain ⟨tb, toff, rfl, thc⟩ := th3 (by omega)
      obtain ⟨tA, tcc, t1, t2, t3, t4⟩ := thc k hlt
      obtain ⟨Q1, qc, qe, qh1, qh2, qh3⟩ := HP7.out.below hrel.out
      cases qe
      have hkq : k < q.length := by have := HNL.out.2; omega
      obtain ⟨qb, qoff, rfl, qhc⟩ := qh3 (by omega)
      obtain ⟨qA, qcc, q1, q2, q3, q4⟩ := qhc k hkq
      obtain ⟨hsp, hpq⟩ := HSP.out k hlt
      rw [← hpq] at q1 q2 q3 q4
      rw [hsp] at t3 q3
      clear thc qhc hpq hsp th3 qh3
      generalize pcAt n k = p at *
      unfold maxLen at th2 qh2
      have i0 : (0 : Int) ≤ (k : Int) := by omega
      have i1 : (k : Int) < (n.length : Int) := by omega
      have i2 : (k : Int) < (q.length : Int) := by omega
      obtain ⟨W8, hW8⟩ : ∃ W8, wr.alloc (.cells #[.int .i64 p.site, .slice tA p.bytes.length tcc, .bool false] 36) = W8 := ⟨_, rfl⟩
      have hb8 : Below wr.heap.size wr W8 := by rw [← hW8]; exact below_al (Below.refl _ _) _
      have hx8 : W8.heap[wr.heap.size]? = some (.cells #[.int .i64 p.site, .slice tA p.bytes.length tcc, .bool false] 36 (0, 0)) := by rw [← hW8]; exact new_here wr _
      have y0 : W8.cell? ⟨wr.heap.size, 0, none⟩ = some (.int .i64 p.site) := cell_of_heap hx8
      have y1 : W8.cell? ⟨wr.heap.size, 1, none⟩ = some (.slice tA p.bytes.length tcc) := cell_of_heap hx8
      have y2 : W8.cell? ⟨wr.heap.size, 2, none⟩ = some (.bool false) := cell_of_heap hx8
      have z0 := (hb8.cell (p := ⟨qb, qoff + k * 3, none⟩) (World.block_lt_of_cell? _ _ q1)).trans q1
      have z1 := (hb8.cell (p := ⟨qb, qoff + k * 3 + 1, none⟩) (World.block_lt_of_cell? _ _ q2)).trans q2
      have T4 := Lib.hid (t4.below hb8)
      have Q4 := Lib.hid (q4.below hb8)
      have HB8 := Lib.hid hb8
      have HW8 := Lib.hid hW8
      clear hx8 hb8 hW8 t4 q4 q1 q2 q3
      go_wp2
      rw [HW8.out]
      go_region_held3 (fun X => X.cell? ⟨wr.heap.size, 0, none⟩ = some (.int .i64 p.site) ∧ X.cell? ⟨wr.heap.size, 1, none⟩ = some (.slice tA p.bytes.length tcc) ∧ X.cell? ⟨wr.heap.size, 2, none⟩ = some (.bool false) ∧ X.cell? ⟨qb, qoff + k * 3, none⟩ = some (.int .i64 p.site) ∧ X.cell? ⟨qb, qoff + k * 3 + 1, none⟩ = some (.slice qA p.bytes.length qcc))
        (exact ⟨y0, y1, y2, z0, z1⟩)
        (first | (go_simp; go_at_call 16; (with_reducible refine (equal_calls _ _ p.bytes p.bytes _ ?_ ?_).mono ?_); (exact T4.out); (exact Q4.out); (rw [decide_eq_true (rfl : p.bytes = p.bytes)]); rintro e w9 ⟨rfl, n9, rfl⟩))
      all_goals
        go_wp2
        go_roundw
        case rel => exact ⟨k + 1, by omega, by go_num, Lib.hid ((below_tr hrel.out HB8.out).drewN _)⟩
        case measure => simp [intOf]; omega
    · have hd : decide (k < n.length) = false := by simpa using hlt
      have hbw := hrel.out
      have t7 := (hbw.block _ (lt_of_heap HT7.out)).trans HT7.out
      have x4 : wr.cell? ⟨w4.heap.size, 0, none⟩ = some (.slice A4 n.length c4) := cell_of_heap t7
      have x5 : wr.cell? ⟨w4.heap.size, 1, none⟩ = some (.int .u64 L) := cell_of_heap t7
      have s7 := (hbw.block _ (lt_of_heap HS7.out)).trans HS7.out
      have x3 : wr.cell? ⟨w.heap.size, 0, none⟩ = some (.int .i64 site) := cell_of_heap s7
      have HSS := Lib.hid s7
      have hmf : ∀ (fn : Fn) (first cap : Array Value) (w : World), (Instr.makeFunc fn first cap).run Try.prog w = .ok (.func fn first cap) w := fun _ _ _ _ => rfl
      have HNr := Lib.hid (HN7.out.below hrel.out)
      have hpt := (HP7.out.below hrel.out).take n.length HNL.out.2
      have e64 : q.take n.length = n := by have h1 := HNQ.out; have h2 := congrArg List.length h1; rw [List.length_take] at h2; by_cases h : 64 ≤ q.length; · rw [← h2, Nat.min_eq_left h]; exact h1
                                           · rw [← h2, Nat.min_eq_right (by omega), List.take_length]; rw [List.take_of_length_le (by omega)] at h1; exact h1
      rw [e64] at hpt
      have HPT := Lib.hid hpt
      have HFI := Lib.hid (firstN_idx n L site HRT.out)
      have hnc : (n.length : Int) ≤ (c2 : Int) := by have := HNL.out.2; omega
      clear t7 s7 hbw hpt e64
      by_cases hi : idxP (fun p => p.site == site) n ≥ 0
      · obtain ⟨ix, hix⟩ : ∃ ix, idxP (fun p => p.site == site) n = ix := ⟨_, rfl⟩
        have HIX := Lib.hid hix
        rw [hix] at hi
        have hge : decide (ix ≥ 0) = true := by simpa using hi
        have hfr : firstN n L site = (ix, true) := by rw [HFI.out, hix]; exact if_pos hi
        have HFR := Lib.hid hfr
        clear hfr hix
        go_wp2_with (first
          | (go_at_call 17; (with_reducible refine (first_calls _ n L site _ HNr.out).mono ?_); (rw [HFR.out]); rintro e w8 ⟨rfl, hb8⟩; (have HS8 := Lib.hid ((hb8.block _ (lt_of_heap HSS.out)).trans HSS.out)); (have HP8 := Lib.hid (HPT.out.below hb8)); (have HB8 := Lib.hid (below_tr HB7.out (below_tr hrel.out hb8))); (clear hb8))
          | (go_at_call 18; (with_reducible refine (index_calls 19 #[.pointer (some ⟨w.heap.size, 0, none⟩)] (fun p => p.site == site) _ n _ e19 (pred_site w.heap.size site _ HS8.out) HP8.out).mono ?_); (rw [HIX.out]); rintro e w9 ⟨rfl, hb9⟩; (have HB9 := Lib.hid (below_tr HB8.out hb9)); (clear hb9)))
        go_ret
        exact ⟨rfl, HB9.out⟩
      · obtain ⟨ix, hix⟩ : ∃ ix, idxP (fun p => p.site == site) n = ix := ⟨_, rfl⟩
        have HIX := Lib.hid hix
        rw [hix] at hi
        have hge : decide (ix ≥ 0) = false := by simpa using hi
        have hfr : firstN n L site = (0, false) := by rw [HFI.out, hix]; exact if_neg hi
        have HFR := Lib.hid hfr
        clear hfr hix
        go_wp2_with (first
          | (go_at_call 17; (with_reducible refine (first_calls _ n L site _ HNr.out).mono ?_); (rw [HFR.out]); rintro e w8 ⟨rfl, hb8⟩; (have HS8 := Lib.hid ((hb8.block _ (lt_of_heap HSS.out)).trans HSS.out)); (have HP8 := Lib.hid (HPT.out.below hb8)); (have HB8 := Lib.hid (below_tr HB7.out (below_tr hrel.out hb8))); (clear hb8))
          | (go_at_call 18; (with_reducible refine (index_calls 19 #[.pointer (some ⟨w.heap.size, 0, none⟩)] (fun p => p.site == site) _ n _ e19 (pred_site w.heap.size site _ HS8.out) HP8.out).mono ?_); (rw [HIX.out]); rintro e w9 ⟨rfl, hb9⟩; (have HB9 := Lib.hid (below_tr HB8.out hb9)); (clear hb9)))
        go_ret
        exact ⟨rfl, HB9.out⟩
end Go.Proofs.Ytnhmhnejglpijaa
