/- law25: NetOrders: the walk. -/
import Derived.Test.YtnhmhnejglpijaaOa
namespace Go.Proofs.Ytnhmhnejglpijaa
open Go.RowKit
set_option maxRecDepth 100000
set_option linter.unusedSimpArgs false
set_option linter.unusedVariables false
theorem pcAt_take (ps : List Pc) (m j : Nat) (hj : j < m) : pcAt (ps.take m) j = pcAt ps j := by
  simp [pcAt, List.getD_eq_getElem?_getD, List.getElem?_take, hj]
theorem Pcs.take {w : World} {A : Option Addr} {n c : Nat} {ps : List Pc} (h : Pcs w (.slice A n c) ps) (m : Nat) (hm : m ≤ n) : Pcs w (.slice A m c) (ps.take m) := by
  obtain ⟨A', cap, e, h1, h2, h3⟩ := h
  cases e
  have hl : (ps.take m).length = m := by simp; omega
  refine ⟨A, c, by rw [hl], by omega, h2, fun h0 => ?_⟩
  obtain ⟨b, off, eA, hc⟩ := h3 (by omega)
  refine ⟨b, off, eA, fun j hj => ?_⟩
  rw [hl] at hj
  rw [pcAt_take ps m j hj]
  exact hc j (by omega)
/-- NetOrders where the parcels cannot be sent -/
theorem orders_no (A : Option Addr) (c m : Nat) (ps : List Pc) (site : Int) (w : World) (hv : Pcs w (.slice A ps.length c) ps) (hc : ps.length ≤ c) (hcc : c ≤ 9223372036854775807) (hm : min ps.length 70 = m) (hq : (fewP (ps.take m) (min (ps.take m).length 66)).all sendable = false) :
    Calls Try.prog 3 #[.slice A ps.length c, .int .i64 site] w fun e w' => e = .returned (.bool true) ∧ Below w.heap.size w w' := by
  have hm1 : min (ps.length : Int) 70 = (m : Int) := by omega
  have hm2 : (m : Int) ≤ (c : Int) := by omega
  have hm3 : (0 : Int) ≤ (m : Int) := by omega
  have HV := Lib.hid (hv.take m (by omega))
  have hlen : (fewP (ps.take m) (min (ps.take m).length 66)).length ≤ 66 := by rw [fewP_length _ _ (Nat.min_le_left _ _)]; omega
  have HQ := Lib.hid hq
  have HLN := Lib.hid hlen
  obtain ⟨q, hqq⟩ : ∃ q, fewP (ps.take m) (min (ps.take m).length 66) = q := ⟨_, rfl⟩
  rw [hqq] at HQ HLN
  have HQQ := Lib.hid hqq
  have hsn : sendN [] 0 q = (2, [], 0) := by rw [sendN_all q (by have := HLN.out; omega), if_neg (by rw [HQ.out]; decide)]
  have HSN := Lib.hid hsn
  clear hv hq hlen hqq hsn hm
  go_enter Try.func3, Try.ntmps3
  go_wp2_with (first
    | (go_at_call 11; (with_reducible refine (wakes_calls _).mono ?_); rintro e w1 ⟨rfl, hb1⟩; (have HB1 := Lib.hid (below_tr (below_al (Below.refl _ w) _) hb1)); (clear hb1))
    | (go_at_call 12; (with_reducible refine (few_calls _ _ _ (HV.out.below HB1.out)).mono ?_); (rw [HQQ.out]); rintro e w2 ⟨v2, rfl, ho2, hb2⟩; (obtain ⟨A2, c2, rfl, _⟩ := ho2.shape); (have HB2 := Lib.hid (below_tr HB1.out hb2)); (have HO2 := Lib.hid ho2); (clear ho2 hb2))
    | (go_at_call 14; (with_reducible refine (new_calls _).mono ?_); rintro e w3 ⟨rfl, hb3⟩; (have HB3 := Lib.hid (below_tr HB2.out hb3)); (have HO3 := Lib.hid (HO2.out.below hb3)); (clear hb3))
    | (go_at_call 13; (with_reducible refine (sendnet_calls _ _ [] q 0 _ (pcs_nil _) HO3.out.pcs (Int.le_refl _)).mono ?_); (rw [HSN.out]); rintro e w4 ⟨A4, c4, rfl, ho4, hb4⟩; (have HB4 := Lib.hid (below_tr HB3.out hb4)); (clear ho4 hb4)))
  go_ret
  exact ⟨rfl, below_al HB4.out _⟩
end Go.Proofs.Ytnhmhnejglpijaa
