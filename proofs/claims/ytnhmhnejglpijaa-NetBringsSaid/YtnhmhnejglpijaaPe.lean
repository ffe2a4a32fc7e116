/- law25: NetBrings: the walk. -/
import Derived.Test.YtnhmhnejglpijaaPd
import Derived.Test.YtnhmhnejglpijaaNy
import Derived.Deep.RegionHeld3
import Derived.Outline
namespace Go.Proofs.Ytnhmhnejglpijaa
open Go.RowKit
set_option maxRecDepth 100000
set_option linter.unusedSimpArgs false
set_option linter.unusedVariables false
set_option maxHeartbeats 8000000 in
theorem brings_calls (v : Value) (l : List Ac) (w : World) (hv : Acs w v l) :
    Calls Try.prog 10 #[v] w fun e w' => e = .returned (.bool true) ∧ Below w.heap.size w w' := by
  obtain ⟨A, cap, rfl, h1, h2, h3⟩ := id hv
  unfold maxLen at h2
  have HV := Lib.hid hv
  clear hv h3
  go_enter Try.func10, Try.ntmps10
  go_wp2_with (first
    | (go_at_call 11; (with_reducible refine (wakes_calls _).mono ?_); rintro e w1 ⟨rfl, hb1⟩; (have HB1 := Lib.hid hb1); (clear hb1))
    | (go_at_call 14; (with_reducible refine (new_calls _).mono ?_); rintro e w2 ⟨rfl, hb2⟩; (have HB2 := Lib.hid (below_tr HB1.out hb2)); (clear hb2)))
  obtain ⟨W3, hW3⟩ : ∃ W3, w2.alloc (.cells #[.slice none 0 0, .int .u64 0] 27) = W3 := ⟨_, rfl⟩
  have HR0 : Hid (BrR w w2.heap.size 0 ⟨[], 0, [], 0, 0⟩ none 0 (.slice none 0 0) W3) := Lib.hid (by
    rw [← hW3]; exact ⟨below_al HB2.out _, HB2.out.size, new_here w2 _, OwnPs.nil _ _, OwnRs.nil _ _ _, BInv.start⟩)
  rw [hW3]
  generalize w2.heap.size = nB at *
  clear hW3 HB1 HB2
  go_loopw [4, 5, 6, 23] (fun s4 s5 s6 s23 wr => ∃ (k : Nat) (s : BS) (An : Option Addr) (cn : Nat), k ≤ l.length ∧ k ≤ 60 ∧ s5 = .int .i64 s.more ∧ s6 = .int .i64 s.less ∧ s23 = .int .i64 k ∧ Hid (BrR w nB k s An cn s4 wr)) (fun _ _ _ i _ => l.length - (intOf i).toNat)
  case atStart => exact ⟨0, ⟨[], 0, [], 0, 0⟩, none, 0, Nat.zero_le _, by decide, rfl, rfl, rfl, HR0⟩
  case round =>
    obtain ⟨k, s, An, cn, hk, hk60, rfl, rfl, rfl, HR⟩ := hrel
    have hm0 := HR.out.inv.m0
    have he0 := HR.out.inv.e0
    have hl0 := HR.out.inv.l0
    have hlk := HR.out.inv.lk
    have HS := Lib.hid HR.out.inv.sum
    have hps : s.ps.length ≤ 64 := (right_iff.1 HR.out.inv.r).1
    have hcv : IntKind.i64.wrap s.lost = s.lost := by rw [IntKind.wrap_i64]; omega
    by_cases hlt : k < l.length
    · have hd : decide (k < l.length) = true := by simpa using hlt
      obtain ⟨A1, cap1, e1, hv1, hv2, hv3⟩ := HV.out.below HR.out.below
      cases e1
      obtain ⟨b, off, rfl, hcell⟩ := hv3 (by omega)
      obtain ⟨A', c', g0, g1, g2, g3, g4, g5, g6, g7⟩ := hcell k hlt
      generalize acAt l k = a at *
      obtain ⟨sd, dest, xb, kind, at_, bit, mask⟩ := a
      dsimp only at g0 g1 g2 g3 g4 g5 g6 g7
      clear hcell hv3
      have i0 : (0 : Int) ≤ (k : Int) := by omega
      have i1 : (k : Int) < (l.length : Int) := by omega
      obtain ⟨W8, hW8⟩ : ∃ W8, wr.alloc (.cells #[.bool sd, .int .i64 dest, .slice A' xb.length c', .int .i64 kind, .int .i64 at_, .int .i64 bit, .int .u32 (nb mask)] 94) = W8 := ⟨_, rfl⟩
      have HW8 := Lib.hid hW8
      have hb8 : Below wr.heap.size wr W8 := by rw [← hW8]; exact below_al (Below.refl _ _) _
      have HA8 : Hid (W8.heap[wr.heap.size]? = some (.cells #[.bool sd, .int .i64 dest, .slice A' xb.length c', .int .i64 kind, .int .i64 at_, .int .i64 bit, .int .u32 (nb mask)] 94 (0, 0))) := Lib.hid (by rw [← hW8]; exact new_here wr _)
      have HR8 := Lib.hid (HR.out.more hb8)
      have HY8 := Lib.hid (g7.below hb8)
      clear hb8 hW8 g7
      by_cases hk6 : k = 60
      · have hq : ((k : Int) == 60) = true := by rw [beq_iff_eq]; omega
        have hbx := HR8.out.box
        rw [← HW8.out] at hbx
        have x0 : (wr.alloc (.cells #[.bool sd, .int .i64 dest, .slice A' xb.length c', .int .i64 kind, .int .i64 at_, .int .i64 bit, .int .u32 (nb mask)] 94)).cell? ⟨nB, 0, none⟩ = some (.slice An s.ps.length cn) := cell_of_heap hbx
        have x1 : (wr.alloc (.cells #[.bool sd, .int .i64 dest, .slice A' xb.length c', .int .i64 kind, .int .i64 at_, .int .i64 bit, .int .u32 (nb mask)] 94)).cell? ⟨nB, 1, none⟩ = some (.int .u64 s.lost) := cell_of_heap hbx
        clear hbx hk6
        go_wp2
        go_ret
        exact ⟨ret_bool (by have := HS.out; simp; omega), by rw [HW8.out]; exact HR8.out.below⟩
      · have hq : ((k : Int) == 60) = false := by rw [beq_eq_false_iff_ne]; omega
        have hk59 : k < 60 := by omega
        clear hk6
        obtain ⟨A8, c8, e8, hc1, hc2, _⟩ := id HY8.out
        cases e8
        unfold maxLen at hc2
        cases sd with
        | true =>
          obtain ⟨m, hm⟩ : ∃ m, min xb.length 40 = m := ⟨_, rfl⟩
          have hm1 : min (xb.length : Int) 40 = (m : Int) := by omega
          have hm2 : (m : Int) ≤ (c' : Int) := by omega
          have hm3 : (0 : Int) ≤ (m : Int) := by omega
          have hxl : (xb.take m).length ≤ 40 := by rw [List.length_take]; omega
          have hX := HY8.out.take m (by omega)
          generalize xb.take m = x at *
          have HX := Lib.hid hX
          clear hX hm
          have hx2 : Hid (x.length ≤ 1099511627776) := Lib.hid (by omega)
          obtain ⟨M, hM⟩ : ∃ M : Int, dest % 18446744073709551616 = M := ⟨_, rfl⟩
          have hM0 : 0 ≤ M ∧ M < 18446744073709551616 := by omega
          obtain ⟨site, hsi⟩ : ∃ site : Int, M % 9 = site := ⟨_, rfl⟩
          have hs0 : 0 ≤ site ∧ site ≤ 8 := by omega
          have e0 : IntKind.u64.wrap dest = M := by rw [IntKind.wrap_u64]; omega
          have e5 : Int.tmod M 9 = site := by rw [Int.tmod_eq_emod_of_nonneg (by omega)]; exact hsi
          have e6 : IntKind.i64.wrap site = site := by rw [IntKind.wrap_i64]; omega
          have e8 : wrap64 site = site := by rw [wrap64]; omega
          obtain ⟨hsn, hin⟩ := HR.out.inv.send hk59 (x := x) hs0.1 hs0.2 hxl
          have HSN := Lib.hid hsn
          have HIN := Lib.hid hin
          generalize sentPs s.ps ⟨site, sealW x, false⟩ = ps' at *
          generalize sentLost s.ps s.lost = lost' at *
          clear hsn hin hM
          go_wp2_with (first
            | (go_at_call 55; (with_reducible refine (seal_calls _ x _ (by rw [HW8.out]; exact HX.out) hx2.out).mono ?_); rintro e w9 ⟨v9, rfl, ho9, hb9⟩; rw [HW8.out] at ho9 hb9; (obtain ⟨A9, n9, c9, rfl⟩ : ∃ A n c, v9 = .slice A n c := by obtain ⟨A, c, e⟩ := own8_shape ho9; exact ⟨A, _, c, e⟩); (have HR9 := Lib.hid (HR8.out.more hb9)); (have HO9 := Lib.hid (ho9.base HR8.out.below.size)); (have y0 : w9.cell? ⟨nB, 0, none⟩ = some (.slice An s.ps.length cn) := cell_of_heap HR9.out.box); (have y1 : w9.cell? ⟨nB, 1, none⟩ = some (.int .u64 s.lost) := cell_of_heap HR9.out.box); (have y2 : w9.cell? ⟨wr.heap.size, 1, none⟩ = some (.int .i64 dest) := cell_of_heap ((hb9.block _ (lt_of_heap HA8.out)).trans HA8.out)); (clear ho9 hb9))
            | (go_at_call 13; (with_reducible refine (sendnet_calls _ _ s.ps [⟨site, sealW x, false⟩] s.lost _ ?_ ?_ HR.out.inv.l0).mono ?_); (exact (HR9.out.more (below_al (Below.refl _ _) _)).own.pcs); (exact pcs_one (new_here w9 _) (HO9.out.alloc _).bys); rw [HSN.out]; rintro e w10 ⟨A10, c10, rfl, ho10, hb10⟩; (have HR10 := Lib.hid ((HR9.out.more (below_al (Below.refl _ _) _)).more hb10)); (have HO10 := Lib.hid (ho10.base (B' := w.heap.size) (by have := HR9.out.below.size; simp; omega))); (have HV10 := Lib.hid ((HO9.out.below (below_al (Below.refl _ _) _)).below hb10)); (clear ho10 hb10)))
          obtain ⟨W11, hW11⟩ : ∃ W11, w10.alloc (.cells #[.slice A10 ps'.length c10, .int .u64 lost'] 27) = W11 := ⟨_, rfl⟩
          have hb11 : Below w10.heap.size w10 W11 := by rw [← hW11]; exact below_al (Below.refl _ _) _
          have hz11 : W11.heap.size = w10.heap.size + 1 := by rw [← hW11]; simp
          have hbox : W11.heap[w10.heap.size]? = some (.cells #[.slice A10 ps'.length c10, .int .u64 lost'] 27 (0, 0)) := by rw [← hW11]; exact new_here w10 _
          have HR11 := Lib.hid (HR10.out.more hb11)
          have HO11 := Lib.hid (HO10.out.below hb11)
          have HV11 := Lib.hid (HV10.out.below hb11)
          have HB0 : Hid (∀ X, Below W11.heap.size W11 X → X.heap[w10.heap.size]? = some (.cells #[.slice A10 ps'.length c10, .int .u64 lost'] 27 (0, 0))) := Lib.hid (fun X hX => (hX.block _ (by omega)).trans hbox)
          have HK : Hid (∀ X, Below W11.heap.size W11 X → X.cell? ⟨nB, 0, none⟩ = some (.slice An s.ps.length cn) ∧ X.cell? ⟨nB, 1, none⟩ = some (.int .u64 s.lost) ∧ X.frozen? ⟨nB, 0, none⟩ = false ∧ X.frozen? ⟨nB, 1, none⟩ = false ∧ X.cell? ⟨w10.heap.size, 0, none⟩ = some (.slice A10 ps'.length c10) ∧ X.cell? ⟨w10.heap.size, 1, none⟩ = some (.int .u64 lost')) := Lib.hid (fun X hX => by
            have k1 := (HR11.out.more hX).box
            have k2 := HB0.out X hX
            exact ⟨cell_of_heap k1, cell_of_heap k1, free_of_heap k1, free_of_heap k1, cell_of_heap k2, cell_of_heap k2⟩)
          have HK2 : Hid (∀ X Y, Below W11.heap.size W11 X → X.grownBy Y u4.ownBlock → Y.heap[nB]? = some (.cells #[.slice An s.ps.length cn, .int .u64 s.lost] 27 (0, 0)) ∧ Y.heap[w10.heap.size]? = some (.cells #[.slice A10 ps'.length c10, .int .u64 lost'] 27 (0, 0)) ∧ Below w.heap.size w Y ∧ OwnPs Y w.heap.size (.slice A10 ps'.length c10) ps') := Lib.hid (fun X Y hX hg => by
            have hRX := HR11.out.more hX
            obtain ⟨k1, k2, k3⟩ := hRX.grown hg
            refine ⟨k1, ?_, k2, k3 _ _ (HO11.out.below hX)⟩
            have hbX := HB0.out X hX
            rw [hg.block _ (lt_of_heap hbX) (fun e => ?_)]
            · exact hbX
            · obtain ⟨_, c, hc⟩ := hRX.rows.type _ e.symm
              rw [hbX] at hc
              cases hc)
          have HRW : Hid (∀ X, Below W11.heap.size W11 X → OwnRs (fun w' v bs => Own8 w' w.heap.size v bs) X w.heap.size u4 s.sent ∧ Own8 X w.heap.size (.slice A9 n9 c9) (sealW x) ∧ w.heap.size ≤ X.heap.size) := Lib.hid (fun X hX => ⟨(HR11.out.more hX).rows, HV11.out.below hX, (HR11.out.more hX).below.size⟩)
          have hsl : Hid (s.sent.length ≤ 1000000) := Lib.hid (by have := HR.out.inv.nk; omega)
          have HW11 := Lib.hid hW11
          clear hW11 hb11 hz11 hbox HR10 HO10 HV10 HR9 HO9 y0 y1 y2
          rw [HW11.out]
          obtain ⟨q1, q2, q3, q4, q5, q6⟩ := HK.out W11 (Below.refl _ _)
          obtain ⟨r1, r2, r3, r4, r5, r6⟩ := HK.out (W11.alloc (.cells #[.slice A9 n9 c9] 34)) (below_al (Below.refl _ _) _)
          go_region_law (first
            | (refine step_appR (el_own _) (by rfl) (.tmp 56) (.tmp 58) (by rfl) w.heap.size u4 s.sent (by rfl) (HRW.out _ (by repeat (with_reducible first | exact Below.refl _ _ | apply below_dr | apply below_al | assumption))).1 W11.heap.size (sealW x) (.slice A9 n9 c9) 34 (0, 0) (by rfl) (new_here W11 _) (HRW.out _ (by repeat (with_reducible first | exact Below.refl _ _ | apply below_dr | apply below_al | assumption))).2.1 hsl.out (HRW.out _ (by repeat (with_reducible first | exact Below.refl _ _ | apply below_dr | apply below_al | assumption))).2.2 (W11.heap.size + 1) (by simp) ?_; intro g cap' w12 h12 hgrow hnb hat hlt12; (obtain ⟨j1, j2, j3, j4⟩ := HK2.out _ _ (by repeat (with_reducible first | exact Below.refl _ _ | apply below_dr | apply below_al | assumption)) hgrow); (have p1 : w12.cell? ⟨nB, 0, none⟩ = some (.slice An s.ps.length cn) := cell_of_heap j1); (have p2 : w12.cell? ⟨nB, 1, none⟩ = some (.int .u64 s.lost) := cell_of_heap j1); (have p3 : w12.frozen? ⟨nB, 0, none⟩ = false := free_of_heap j1); (have p4 : w12.frozen? ⟨nB, 1, none⟩ = false := free_of_heap j1); (have p5 : w12.cell? ⟨w10.heap.size, 0, none⟩ = some (.slice A10 ps'.length c10) := cell_of_heap j2); (have p6 : w12.cell? ⟨w10.heap.size, 1, none⟩ = some (.int .u64 lost') := cell_of_heap j2); (have HF := Lib.hid (BrR.put (nB := nB) (k' := k + 1) (s' := ⟨ps', lost', s.sent ++ [sealW x], s.more + 1, s.less⟩) (n' := ps'.length) (L' := lost') j3 HR.out.nb j1 rfl rfl j4 h12 HIN.out)); (clear j1 j2 j3 j4 h12)))
          all_goals
            go_wp2
            go_roundw
            case rel => exact ⟨k + 1, ⟨ps', lost', s.sent ++ [sealW x], s.more + 1, s.less⟩, A10, c10, by omega, by omega, rfl, rfl, by go_num, HF⟩
            case measure => simp [intOf]; omega
        | false =>
          have hdo := HR.out.inv.do_ hk59 kind at_ bit mask
          obtain ⟨en, ps', lost', ⟨psite, pb, psp⟩, hr⟩ : ∃ en ps' lost' p, doN s.ps s.lost kind at_ bit mask = (en, ps', lost', p) := ⟨_, _, _, _, rfl⟩
          rw [hr] at hdo
          dsimp only at hdo
          have HD := Lib.hid hr
          have HDO := Lib.hid hdo
          clear hr hdo
          have hbx := HR8.out.box
          rw [← HW8.out] at hbx
          have x0 : (wr.alloc (.cells #[.bool false, .int .i64 dest, .slice A' xb.length c', .int .i64 kind, .int .i64 at_, .int .i64 bit, .int .u32 (nb mask)] 94)).cell? ⟨nB, 0, none⟩ = some (.slice An s.ps.length cn) := cell_of_heap hbx
          have x1 : (wr.alloc (.cells #[.bool false, .int .i64 dest, .slice A' xb.length c', .int .i64 kind, .int .i64 at_, .int .i64 bit, .int .u32 (nb mask)] 94)).cell? ⟨nB, 1, none⟩ = some (.int .u64 s.lost) := cell_of_heap hbx
          clear hbx
          by_cases hen : en = 0
          · subst hen
            have HBR := Lib.hid (HDO.out rfl)
            by_cases hk1 : kind = 1
            · have hpc := (HBR.out.1 hk1).1
              have HPL : Hid (pb.length ≤ 1099511627776) := Lib.hid (by have h := hpc.1; unfold mayP mayV at h; rw [decide_eq_true_eq] at h; dsimp only at h; omega)
              have hb1 : (kind == 1) = true := by simpa using hk1
              have hmf : ∀ (fn : Fn) (first cap : Array Value) (w : World), (Instr.makeFunc fn first cap).run Try.prog w = .ok (.func fn first cap) w := fun _ _ _ _ => rfl
              have HPCX := Lib.hid hpc.2
              clear hpc
              cases psp with
              | true =>

                have HIN : Hid (BInv ⟨ps', lost', s.sent, s.more, s.less + 1⟩ (k + 1)) := Lib.hid ((HBR.out.1 hk1).2)
                have HOP : Hid (openedW pb = none) := Lib.hid (by have h := HPCX.out; rwa [if_pos rfl] at h)
                clear hk1
                go_wp2_with (first
                  | (go_at_call 23; (with_reducible refine (netdo_calls _ s.ps s.lost kind at_ bit mask _ (by rw [HW8.out]; exact HR8.out.own.pcs) HR.out.inv.l0).mono ?_); rw [HD.out]; rintro e w9 ⟨A9, c9, B9, d9, rfl, ho9, hp9, hb9⟩; rw [HW8.out] at hb9 ho9 hp9; (have HR9 := Lib.hid (HR8.out.more hb9)); (have HO9 := Lib.hid (ho9.base HR8.out.below.size)); (have HP9 := Lib.hid hp9); (obtain ⟨⟨q1, q2, q3, q4, q5, q6⟩, qb, qn, qa, qn2, qp⟩ := brdo_facts (v := .slice A9 ps'.length c9) (L := .int .u64 lost') (p0 := .int .i64 psite) (p1 := .slice B9 pb.length d9) (p2 := .bool true) HR9.out.box ((hb9.block _ (lt_of_heap HA8.out)).trans HA8.out) _ rfl); (have z3 : _ = some (Value.int .i64 kind) := cell_of_heap (k := 3) qa); (have y0 : _ = some (Value.slice A9 ps'.length c9) := cell_of_heap (k := 0) qn2); (have y1 : _ = some (Value.int .u64 lost') := cell_of_heap (k := 1) qn2); (have v1 : _ = some (Value.slice B9 pb.length d9) := cell_of_heap (k := 1) qp); (have v2 : _ = some (Value.bool true) := cell_of_heap (k := 2) qp); (have HRF := Lib.hid (BrR.put (nB := nB) (k' := k + 1) (s' := ⟨ps', lost', s.sent, s.more, s.less + 1⟩) (n' := ps'.length) (L' := lost') (vs' := u4) (below_tr HR9.out.below qb) HR9.out.nb qn rfl rfl (HO9.out.below qb) (HR9.out.rows.below (el_own _) qb) HIN.out)); (have HQP := Lib.hid qp); (have HBP := Lib.hid ((((HP9.out.below qb).keptN (grownBy_set _ nB 0 (.slice A9 ps'.length c9)) (noBytes_of qn (by decide))).keptN (grownBy_set _ nB 1 (.int .u64 lost')) (noBytes_of (heap_setCell_same _ nB 0 (.slice A9 ps'.length c9) _ _ _ qn) (by decide))).bys)); (clear qb qn qa qn2 qp ho9 hp9 hb9))
                  | (go_at_call 56; (with_reducible refine (open_all _ pb _ HBP.out HPL.out).mono ?_); rintro e w10 ⟨hb10, hr10⟩; rw [HOP.out] at hr10; (obtain rfl := hr10); (have HRF1 := Lib.hid (HRF.out.more hb10)); (have HQP1 := Lib.hid ((hb10.block _ (lt_of_heap HQP.out)).trans HQP.out)); (have HBP1 := Lib.hid (HBP.out.below hb10)); (have v2' : w10.cell? ⟨w9.heap.size + 1, 2, none⟩ = some (.bool true) := cell_of_heap HQP1.out); (clear hb10))
                  | (go_at_call 57; (with_reducible refine (rcontains_calls 58 #[.pointer (some ⟨w9.heap.size + 1, 0, none⟩)] (fun x => decide (x = pb)) u4 s.sent _ e58 (pred_known (w9.heap.size + 1) _ _ _ pb _ _ HQP1.out HBP1.out) (HRF1.out.rows.rws (el_own _))).mono ?_);  rintro e w11 ⟨rfl, hb11⟩; (have HRF2 := Lib.hid (HRF1.out.more hb11)); (have v2'' : w11.cell? ⟨w9.heap.size + 1, 2, none⟩ = some (.bool true) := cell_of_heap ((hb11.block _ (lt_of_heap HQP1.out)).trans HQP1.out)); (have y0' : w11.cell? ⟨nB, 0, none⟩ = some (.slice A9 ps'.length c9) := cell_of_heap HRF2.out.box); (have y1' : w11.cell? ⟨nB, 1, none⟩ = some (.int .u64 lost') := cell_of_heap HRF2.out.box); (clear hb11))
                  | (go_at_call 31; (with_reducible refine (check_ok _ ps' lost' _ HIN.out.r (HRF2.out.own.pcs)).mono ?_); rintro e w12 ⟨rfl, hb12⟩; (have HRE := Lib.hid (HRF2.out.more hb12))))
                go_roundw
                case rel => exact ⟨k + 1, ⟨ps', lost', s.sent, s.more, s.less + 1⟩, A9, c9, by omega, by omega, rfl, rfl, by go_num, HRE⟩
                case measure => simp [intOf]; omega
              | false =>

                have HIN : Hid (BInv ⟨ps', lost', s.sent, s.more, s.less + 1⟩ (k + 1)) := Lib.hid ((HBR.out.1 hk1).2)
                obtain ⟨x, HOP⟩ : ∃ x, Hid (openedW pb = some x) := by have h := HPCX.out; rw [if_neg (by simp)] at h; obtain ⟨_, x, _, e⟩ := h; exact ⟨x, Lib.hid (by show openedW pb = _; rw [show pb = sealW x from e]; exact opened_sealed x)⟩
                have HKN : Hid ((s.sent.any fun x => decide (x = pb)) = true) := Lib.hid (by have h := HPCX.out; rw [if_neg (by simp)] at h; rw [List.any_eq_true]; exact ⟨pb, h.1, by simp⟩)
                clear hk1
                go_wp2_with (first
                  | (go_at_call 23; (with_reducible refine (netdo_calls _ s.ps s.lost kind at_ bit mask _ (by rw [HW8.out]; exact HR8.out.own.pcs) HR.out.inv.l0).mono ?_); rw [HD.out]; rintro e w9 ⟨A9, c9, B9, d9, rfl, ho9, hp9, hb9⟩; rw [HW8.out] at hb9 ho9 hp9; (have HR9 := Lib.hid (HR8.out.more hb9)); (have HO9 := Lib.hid (ho9.base HR8.out.below.size)); (have HP9 := Lib.hid hp9); (obtain ⟨⟨q1, q2, q3, q4, q5, q6⟩, qb, qn, qa, qn2, qp⟩ := brdo_facts (v := .slice A9 ps'.length c9) (L := .int .u64 lost') (p0 := .int .i64 psite) (p1 := .slice B9 pb.length d9) (p2 := .bool false) HR9.out.box ((hb9.block _ (lt_of_heap HA8.out)).trans HA8.out) _ rfl); (have z3 : _ = some (Value.int .i64 kind) := cell_of_heap (k := 3) qa); (have y0 : _ = some (Value.slice A9 ps'.length c9) := cell_of_heap (k := 0) qn2); (have y1 : _ = some (Value.int .u64 lost') := cell_of_heap (k := 1) qn2); (have v1 : _ = some (Value.slice B9 pb.length d9) := cell_of_heap (k := 1) qp); (have v2 : _ = some (Value.bool false) := cell_of_heap (k := 2) qp); (have HRF := Lib.hid (BrR.put (nB := nB) (k' := k + 1) (s' := ⟨ps', lost', s.sent, s.more, s.less + 1⟩) (n' := ps'.length) (L' := lost') (vs' := u4) (below_tr HR9.out.below qb) HR9.out.nb qn rfl rfl (HO9.out.below qb) (HR9.out.rows.below (el_own _) qb) HIN.out)); (have HQP := Lib.hid qp); (have HBP := Lib.hid ((((HP9.out.below qb).keptN (grownBy_set _ nB 0 (.slice A9 ps'.length c9)) (noBytes_of qn (by decide))).keptN (grownBy_set _ nB 1 (.int .u64 lost')) (noBytes_of (heap_setCell_same _ nB 0 (.slice A9 ps'.length c9) _ _ _ qn) (by decide))).bys)); (clear qb qn qa qn2 qp ho9 hp9 hb9))
                  | (go_at_call 56; (with_reducible refine (open_all _ pb _ HBP.out HPL.out).mono ?_); rintro e w10 ⟨hb10, hr10⟩; rw [HOP.out] at hr10; (obtain ⟨v10, rfl, ho10⟩ := hr10); (obtain ⟨A10, n10, c10, rfl⟩ : ∃ A n c, v10 = .slice A n c := by obtain ⟨A, c, e⟩ := own8_shape ho10; exact ⟨A, _, c, e⟩); (clear ho10); (have HRF1 := Lib.hid (HRF.out.more hb10)); (have HQP1 := Lib.hid ((hb10.block _ (lt_of_heap HQP.out)).trans HQP.out)); (have HBP1 := Lib.hid (HBP.out.below hb10)); (have v2' : w10.cell? ⟨w9.heap.size + 1, 2, none⟩ = some (.bool false) := cell_of_heap HQP1.out); (clear hb10))
                  | (go_at_call 57; (with_reducible refine (rcontains_calls 58 #[.pointer (some ⟨w9.heap.size + 1, 0, none⟩)] (fun x => decide (x = pb)) u4 s.sent _ e58 (pred_known (w9.heap.size + 1) _ _ _ pb _ _ HQP1.out HBP1.out) (HRF1.out.rows.rws (el_own _))).mono ?_); rw [HKN.out]; rintro e w11 ⟨rfl, hb11⟩; (have HRF2 := Lib.hid (HRF1.out.more hb11)); (have v2'' : w11.cell? ⟨w9.heap.size + 1, 2, none⟩ = some (.bool false) := cell_of_heap ((hb11.block _ (lt_of_heap HQP1.out)).trans HQP1.out)); (have y0' : w11.cell? ⟨nB, 0, none⟩ = some (.slice A9 ps'.length c9) := cell_of_heap HRF2.out.box); (have y1' : w11.cell? ⟨nB, 1, none⟩ = some (.int .u64 lost') := cell_of_heap HRF2.out.box); (clear hb11))
                  | (go_at_call 31; (with_reducible refine (check_ok _ ps' lost' _ HIN.out.r (HRF2.out.own.pcs)).mono ?_); rintro e w12 ⟨rfl, hb12⟩; (have HRE := Lib.hid (HRF2.out.more hb12))))
                go_roundw
                case rel => exact ⟨k + 1, ⟨ps', lost', s.sent, s.more, s.less + 1⟩, A9, c9, by omega, by omega, rfl, rfl, by go_num, HRE⟩
                case measure => simp [intOf]; omega
            · have hb1 : (kind == 1) = false := by simpa using hk1
              by_cases hk2 : kind = 2
              · have hb2 : (kind == 2) = true := by simpa using hk2
                have hk3 : True := trivial

                have HIN : Hid (BInv ⟨ps', lost', s.sent, s.more, s.less + 1⟩ (k + 1)) := Lib.hid (HBR.out.2.1 hk2)
                clear hk1 hk2 hk3
                go_wp2_with (first
                  | (go_at_call 23; (with_reducible refine (netdo_calls _ s.ps s.lost kind at_ bit mask _ (by rw [HW8.out]; exact HR8.out.own.pcs) HR.out.inv.l0).mono ?_); rw [HD.out]; rintro e w9 ⟨A9, c9, B9, d9, rfl, ho9, hp9, hb9⟩; rw [HW8.out] at hb9 ho9 hp9; (have HR9 := Lib.hid (HR8.out.more hb9)); (have HO9 := Lib.hid (ho9.base HR8.out.below.size)); (have HP9 := Lib.hid hp9); (obtain ⟨⟨q1, q2, q3, q4, q5, q6⟩, qb, qn, qa, qn2, qp⟩ := brdo_facts (v := .slice A9 ps'.length c9) (L := .int .u64 lost') (p0 := .int .i64 psite) (p1 := .slice B9 pb.length d9) (p2 := .bool psp) HR9.out.box ((hb9.block _ (lt_of_heap HA8.out)).trans HA8.out) _ rfl); (have z3 : _ = some (Value.int .i64 kind) := cell_of_heap (k := 3) qa); (have y0 : _ = some (Value.slice A9 ps'.length c9) := cell_of_heap (k := 0) qn2); (have y1 : _ = some (Value.int .u64 lost') := cell_of_heap (k := 1) qn2); (have v1 : _ = some (Value.slice B9 pb.length d9) := cell_of_heap (k := 1) qp); (have v2 : _ = some (Value.bool psp) := cell_of_heap (k := 2) qp); (have HRF := Lib.hid (BrR.put (nB := nB) (k' := k + 1) (s' := ⟨ps', lost', s.sent, s.more, s.less + 1⟩) (n' := ps'.length) (L' := lost') (vs' := u4) (below_tr HR9.out.below qb) HR9.out.nb qn rfl rfl (HO9.out.below qb) (HR9.out.rows.below (el_own _) qb) HIN.out)); (have HQP := Lib.hid qp); (have HBP := Lib.hid ((((HP9.out.below qb).keptN (grownBy_set _ nB 0 (.slice A9 ps'.length c9)) (noBytes_of qn (by decide))).keptN (grownBy_set _ nB 1 (.int .u64 lost')) (noBytes_of (heap_setCell_same _ nB 0 (.slice A9 ps'.length c9) _ _ _ qn) (by decide))).bys)); (clear qb qn qa qn2 qp ho9 hp9 hb9))
                  | (go_at_call 31; (with_reducible refine (check_ok _ ps' lost' _ HIN.out.r (HRF.out.own.pcs)).mono ?_); rintro e w12 ⟨rfl, hb12⟩; (have HRE := Lib.hid (HRF.out.more hb12))))
                go_roundw
                case rel => exact ⟨k + 1, ⟨ps', lost', s.sent, s.more, s.less + 1⟩, A9, c9, by omega, by omega, rfl, rfl, by go_num, HRE⟩
                case measure => simp [intOf]; omega
              · have hb2 : (kind == 2) = false := by simpa using hk2
                by_cases hk3 : kind = 3
                · have hb3 : (kind == 3) = true := by simpa using hk3

                  have HIN : Hid (BInv ⟨ps', lost', s.sent, s.more + 1, s.less⟩ (k + 1)) := Lib.hid (HBR.out.2.2.1 hk3)
                  clear hk1 hk2 hk3
                  go_wp2_with (first
                    | (go_at_call 23; (with_reducible refine (netdo_calls _ s.ps s.lost kind at_ bit mask _ (by rw [HW8.out]; exact HR8.out.own.pcs) HR.out.inv.l0).mono ?_); rw [HD.out]; rintro e w9 ⟨A9, c9, B9, d9, rfl, ho9, hp9, hb9⟩; rw [HW8.out] at hb9 ho9 hp9; (have HR9 := Lib.hid (HR8.out.more hb9)); (have HO9 := Lib.hid (ho9.base HR8.out.below.size)); (have HP9 := Lib.hid hp9); (obtain ⟨⟨q1, q2, q3, q4, q5, q6⟩, qb, qn, qa, qn2, qp⟩ := brdo_facts (v := .slice A9 ps'.length c9) (L := .int .u64 lost') (p0 := .int .i64 psite) (p1 := .slice B9 pb.length d9) (p2 := .bool psp) HR9.out.box ((hb9.block _ (lt_of_heap HA8.out)).trans HA8.out) _ rfl); (have z3 : _ = some (Value.int .i64 kind) := cell_of_heap (k := 3) qa); (have y0 : _ = some (Value.slice A9 ps'.length c9) := cell_of_heap (k := 0) qn2); (have y1 : _ = some (Value.int .u64 lost') := cell_of_heap (k := 1) qn2); (have v1 : _ = some (Value.slice B9 pb.length d9) := cell_of_heap (k := 1) qp); (have v2 : _ = some (Value.bool psp) := cell_of_heap (k := 2) qp); (have HRF := Lib.hid (BrR.put (nB := nB) (k' := k + 1) (s' := ⟨ps', lost', s.sent, s.more + 1, s.less⟩) (n' := ps'.length) (L' := lost') (vs' := u4) (below_tr HR9.out.below qb) HR9.out.nb qn rfl rfl (HO9.out.below qb) (HR9.out.rows.below (el_own _) qb) HIN.out)); (have HQP := Lib.hid qp); (have HBP := Lib.hid ((((HP9.out.below qb).keptN (grownBy_set _ nB 0 (.slice A9 ps'.length c9)) (noBytes_of qn (by decide))).keptN (grownBy_set _ nB 1 (.int .u64 lost')) (noBytes_of (heap_setCell_same _ nB 0 (.slice A9 ps'.length c9) _ _ _ qn) (by decide))).bys)); (clear qb qn qa qn2 qp ho9 hp9 hb9))
                    | (go_at_call 31; (with_reducible refine (check_ok _ ps' lost' _ HIN.out.r (HRF.out.own.pcs)).mono ?_); rintro e w12 ⟨rfl, hb12⟩; (have HRE := Lib.hid (HRF.out.more hb12))))
                  go_roundw
                  case rel => exact ⟨k + 1, ⟨ps', lost', s.sent, s.more + 1, s.less⟩, A9, c9, by omega, by omega, rfl, rfl, by go_num, HRE⟩
                  case measure => simp [intOf]; omega
                · have hb3 : (kind == 3) = false := by simpa using hk3

                  have HIN : Hid (BInv ⟨ps', lost', s.sent, s.more, s.less⟩ (k + 1)) := Lib.hid (HBR.out.2.2.2 hk1 hk2 hk3)
                  clear hk1 hk2 hk3
                  go_wp2_with (first
                    | (go_at_call 23; (with_reducible refine (netdo_calls _ s.ps s.lost kind at_ bit mask _ (by rw [HW8.out]; exact HR8.out.own.pcs) HR.out.inv.l0).mono ?_); rw [HD.out]; rintro e w9 ⟨A9, c9, B9, d9, rfl, ho9, hp9, hb9⟩; rw [HW8.out] at hb9 ho9 hp9; (have HR9 := Lib.hid (HR8.out.more hb9)); (have HO9 := Lib.hid (ho9.base HR8.out.below.size)); (have HP9 := Lib.hid hp9); (obtain ⟨⟨q1, q2, q3, q4, q5, q6⟩, qb, qn, qa, qn2, qp⟩ := brdo_facts (v := .slice A9 ps'.length c9) (L := .int .u64 lost') (p0 := .int .i64 psite) (p1 := .slice B9 pb.length d9) (p2 := .bool psp) HR9.out.box ((hb9.block _ (lt_of_heap HA8.out)).trans HA8.out) _ rfl); (have z3 : _ = some (Value.int .i64 kind) := cell_of_heap (k := 3) qa); (have y0 : _ = some (Value.slice A9 ps'.length c9) := cell_of_heap (k := 0) qn2); (have y1 : _ = some (Value.int .u64 lost') := cell_of_heap (k := 1) qn2); (have v1 : _ = some (Value.slice B9 pb.length d9) := cell_of_heap (k := 1) qp); (have v2 : _ = some (Value.bool psp) := cell_of_heap (k := 2) qp); (have HRF := Lib.hid (BrR.put (nB := nB) (k' := k + 1) (s' := ⟨ps', lost', s.sent, s.more, s.less⟩) (n' := ps'.length) (L' := lost') (vs' := u4) (below_tr HR9.out.below qb) HR9.out.nb qn rfl rfl (HO9.out.below qb) (HR9.out.rows.below (el_own _) qb) HIN.out)); (have HQP := Lib.hid qp); (have HBP := Lib.hid ((((HP9.out.below qb).keptN (grownBy_set _ nB 0 (.slice A9 ps'.length c9)) (noBytes_of qn (by decide))).keptN (grownBy_set _ nB 1 (.int .u64 lost')) (noBytes_of (heap_setCell_same _ nB 0 (.slice A9 ps'.length c9) _ _ _ qn) (by decide))).bys)); (clear qb qn qa qn2 qp ho9 hp9 hb9))
                    | (go_at_call 31; (with_reducible refine (check_ok _ ps' lost' _ HIN.out.r (HRF.out.own.pcs)).mono ?_); rintro e w12 ⟨rfl, hb12⟩; (have HRE := Lib.hid (HRF.out.more hb12))))
                  go_roundw
                  case rel => exact ⟨k + 1, ⟨ps', lost', s.sent, s.more, s.less⟩, A9, c9, by omega, by omega, rfl, rfl, by go_num, HRE⟩
                  case measure => simp [intOf]; omega
          · have hne : (en != 0) = true := by simpa using hen
            clear hen
            go_wp2_with (go_at_call 23; (with_reducible refine (netdo_calls _ s.ps s.lost kind at_ bit mask _ (by rw [HW8.out]; exact HR8.out.own.pcs) HR.out.inv.l0).mono ?_); rw [HD.out]; rintro e w9 ⟨A9, c9, B9, d9, rfl, ho9, hp9, hb9⟩; rw [HW8.out] at hb9; (have HR9 := Lib.hid (HR8.out.more hb9)); (clear ho9 hp9 hb9))
            go_roundw
            case rel => exact ⟨k + 1, s, An, cn, by omega, by omega, rfl, rfl, by go_num, Lib.hid (HR9.out.more (below_al (below_al (Below.refl _ _) _) _)).next⟩
            case measure => simp [intOf]; omega
    · have hd : decide (k < l.length) = false := by simpa using hlt
      have hbx := HR.out.box
      have x0 : wr.cell? ⟨nB, 0, none⟩ = some (.slice An s.ps.length cn) := cell_of_heap hbx
      have x1 : wr.cell? ⟨nB, 1, none⟩ = some (.int .u64 s.lost) := cell_of_heap hbx
      clear hbx
      go_wp2
      go_ret
      exact ⟨ret_bool (by have := HS.out; simp; omega), HR.out.below⟩
end Go.Proofs.Ytnhmhnejglpijaa
