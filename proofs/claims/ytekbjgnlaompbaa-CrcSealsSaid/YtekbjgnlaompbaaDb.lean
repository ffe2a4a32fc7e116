/- The law of bursts: the walk. -/
import Derived.Test.YtekbjgnlaompbaaDa
namespace Go.Proofs.Ytekbjgnlaompbaa
open Go.RowKit
set_option linter.unusedSimpArgs false
theorem bys_len {w : World} {v : Value} {bs : List B8} (h : Bys w v bs) : ∃ A c, v = .slice A bs.length c := by
  obtain ⟨A, c, e, _⟩ := h
  exact ⟨A, c, e⟩
set_option maxRecDepth 100000 in
set_option maxHeartbeats 4000000 in
theorem bursts_calls (hwk : WakesOk) (v : Value) (bs : List B8) (b : Int) (m : W32) (w : World) (hb : Bys w v bs) :
    Calls Try.prog 5 #[v, .int .i64 b, .int .u32 (nb m)] w fun e w' => e = .returned (.bool true) ∧ Below w.heap.size w w' := by
  have hx : (bs.take 400).length ≤ 400 := by rw [List.length_take]; omega
  generalize hxs : bs.take 400 = x at hx
  have HXS := Lib.hid hxs
  clear hxs
  have hS : (sealW x).length = x.length + 4 := sealW_length x
  have hos : openedW (sealW x) = some x := opened_sealed x
  have hN : within b (8 * (sealW x).length) < 8 * (sealW x).length := within_lt _ _ (by omega)
  have hsp := opened_spoilt x (within b (8 * (sealW x).length)) m hN
  have hno := spoil_none (sealW x) (within b (8 * (sealW x).length)) m
  have htw := spoil_twice (sealW x) (within b (8 * (sealW x).length)) m 32
  have hsl := fun (a : List B8) (h : a.length = (sealW x).length) => spoilS_len a (sealW x) (within b (8 * (sealW x).length)) m 32 h
  have hkl := spoilK_length (sealW x) (within b (8 * (sealW x).length)) m 32
  generalize hSS : sealW x = S at *
  have HQ1 : Hid (S.length ≤ 1099511627776) := Lib.hid (by omega)
  have HQ0 : Hid (within b (8 * S.length) < 8 * S.length) := Lib.hid (by omega)
  have HQ3 : Hid (x.length ≤ 1099511627776) := Lib.hid (by omega)
  generalize hNN : within b (8 * S.length) = N at *
  generalize hMM : (b % 18446744073709551616).toNat = M
  generalize hLL : 8 * S.length = L
  have e0 : IntKind.u64.wrap b = (M : Int) := by rw [IntKind.wrap_u64]; omega
  have e1 : IntKind.i64.wrap (8 * (S.length : Int)) = (L : Int) := by rw [IntKind.wrap_i64]; omega
  have e2 : IntKind.u64.wrap (L : Int) = (L : Int) := by rw [IntKind.wrap_u64]; omega
  have e3 : ((L : Int) = 0) = False := eq_false (by omega)
  have e9 : (L = 0) = False := eq_false (by omega)
  have e4 : (M : Int) % (L : Int) = (N : Int) := by rw [← hLL, ← hNN, ← hMM]; rfl
  have e5 : Int.tmod (M : Int) (L : Int) = (N : Int) := by rw [Int.tmod_eq_emod_of_nonneg (by omega)]; exact e4
  have e6 : IntKind.i64.wrap (N : Int) = (N : Int) := by rw [IntKind.wrap_i64]; omega
  have e7 : IntKind.i64.wrap ((N : Int) + 32) = (N : Int) + 32 := by rw [IntKind.wrap_i64]; omega
  have e8 : wrap64 (N : Int) = (N : Int) := by rw [wrap64]; omega
  have hnot : ∀ (x : Bool) (w : World), (Op.unary .not (.bool x)).run Try.prog w = .ok (.bool (!x)) w := fun _ _ => rfl
  have H1 := Lib.hid hsp
  have H2 := Lib.hid hno
  have H3 := Lib.hid htw
  have H4 := Lib.hid hsl
  have H5 := Lib.hid hkl
  have H6 := Lib.hid hos
  have H7 := Lib.hid hN
  have H8 := Lib.hid hS
  have H9 := Lib.hid hx
  have HB := Lib.hid hb
  have HSS := Lib.hid hSS
  have HNN := Lib.hid hNN
  have HLL := Lib.hid hLL
  clear hsp hno htw hsl hkl hos hN hS hx hb hSS hNN hMM hLL
  have HW : Hid (∀ w : World, Calls Try.prog 9 #[] w fun e w' => e = .returned (.bool true) ∧ Below w.heap.size w w') := Lib.hid hwk
  clear hwk
  by_cases hs : spoilS S N m 32 = true
  · have hw1 : spoilW S N m = some (spoilK S N m 32) := by rw [spoilW, if_pos hs]
    have hw2 : spoilW (spoilK S N m 32) N m = some S := by rw [spoilW, H4.out _ H5.out, if_pos hs, H3.out]
    have ho := H1.out hs
    have hne : decide (spoilK S N m 32 = S) = false := decide_eq_false fun h => by
      rw [h, H6.out] at ho
      cases ho
    have HR1 : Hid ((spoilK S N m 32).length ≤ 1099511627776) := by
      show _ ≤ _
      rw [H5.out]
      exact HQ1.out
    have HR2 : Hid (N < 8 * (spoilK S N m 32).length) := by
      show _ < _
      rw [H5.out]
      exact HQ0.out
    generalize hT : spoilK S N m 32 = T at *
    have K1 := Lib.hid hw1
    have K2 := Lib.hid hw2
    have K3 := Lib.hid ho
    have K4 := Lib.hid hne
    have K5 := Lib.hid hT
    clear hw1 hw2 ho hne hT hs
    go_enter Try.func5, Try.ntmps5
    go_wp2_with (first
      | (go_at_call 9; (with_reducible refine (HW.out _).mono ?_); rintro e w1 ⟨rfl, hb1⟩)
      | (go_at_call 13; (with_reducible refine (few_calls _ _ _ (HB.out.below hb1)).mono ?_); rintro e w2 ⟨v2, rfl, ho2, hb2⟩; rw [HXS.out] at ho2)
      | (go_at_call 14; (with_reducible refine (seal_calls _ _ _ ho2.bys HQ3.out).mono ?_); rintro e w3 ⟨v3, rfl, ho3, hb3⟩; rw [HSS.out] at ho3; obtain ⟨A3, c3, rfl⟩ := bys_len ho3.bys)
      | (go_at_call 18; (with_reducible refine (spoil_calls0 _ S N m _ ho3.bys HQ1.out HQ0.out).mono ?_); rintro e w4 ⟨hb4, h4⟩; rw [K1.out] at h4; obtain ⟨v4, rfl, ho4⟩ := h4)
      | (go_at_call 16; (with_reducible refine (open_all _ T _ ho4.bys HR1.out).mono ?_); rintro e w5 ⟨hb5, h5⟩; rw [K3.out] at h5; subst h5)
      | (go_at_call 18; (with_reducible refine (spoil_calls0 _ T N m _ (ho4.bys.below hb5) HR1.out HR2.out).mono ?_); rintro e w6 ⟨hb6, h6⟩; rw [K2.out] at h6; obtain ⟨v6, rfl, ho6⟩ := h6)
      | (go_at_call 16; (with_reducible refine (open_all _ S _ ho6.bys HQ1.out).mono ?_); rintro e w7 ⟨hb7, h7⟩; rw [H6.out] at h7; obtain ⟨v7, rfl, ho7⟩ := h7)
      | (go_at_call 11; (with_reducible refine (equal_calls _ _ T S _ (((ho4.bys.below hb5).below hb6).below hb7) ((((ho3.bys.below hb4).below hb5).below hb6).below hb7)).mono ?_); rintro e w8 ⟨rfl, n8, rfl⟩; rw [K4.out])
      | (go_at_call 11; (with_reducible refine (equal_same _ _ S _ ((ho6.bys.below hb7).below ?_) (((((ho3.bys.below hb4).below hb5).below hb6).below hb7).below ?_)).mono ?_); (exact below_dn (Below.refl _ _) _); (exact below_dn (Below.refl _ _) _); rintro e w9 ⟨rfl, n9, rfl⟩)
      | (go_at_call 13; (with_reducible refine (few_calls _ bs _ ?_).mono ?_); (refine ((((((((HB.out.below hb1).below hb2).below hb3).below hb4).below hb5).below hb6).below hb7).below ?_)); (first | exact below_dn (Below.refl _ _) _ | exact below_dn (below_dn (Below.refl _ _) _) _); rintro e w10 ⟨v10, rfl, ho10, hb10⟩; rw [HXS.out] at ho10)
      | (go_at_call 11; (with_reducible refine (equal_same _ _ x _ ((ho7.bys.below ?_).below hb10) ho10.bys).mono ?_); (first | exact below_dn (Below.refl _ _) _ | exact below_dn (below_dn (Below.refl _ _) _) _); rintro e w11 ⟨rfl, n11, rfl⟩)
      | fail)
    go_ret
    have hch := below_tr (below_tr (below_tr (below_tr (below_tr (below_tr hb1 hb2) hb3) hb4) hb5) hb6) hb7
    first
      | exact ⟨rfl, below_dn (below_tr (below_dn hch _) hb10) _⟩
      | exact ⟨rfl, below_dn (below_tr (below_dn (below_dn hch _) _) hb10) _⟩
  · have hs2 : spoilS S N m 32 = false := by simpa using hs
    have hw1 : spoilW S N m = none := by rw [spoilW, if_neg hs]
    have K1 := Lib.hid hw1
    have hor := H2.out hs2
    clear hw1 hs hs2
    by_cases hm : nb m = 0
    · have hmt : (nb m == (0 : Int)) = true := by rw [hm]; rfl
      have hmd : decide (nb m = (0 : Int)) = true := decide_eq_true hm
      clear hor
      have HM := Lib.hid hm
      clear hm
      generalize hz : nb m = z at *
      have HZ := Lib.hid hz
      clear hz
      go_enter Try.func5, Try.ntmps5
      go_wp2_with (first
        | (go_at_call 9; (with_reducible refine (HW.out _).mono ?_); rintro e w1 ⟨rfl, hb1⟩)
        | (go_at_call 13; (with_reducible refine (few_calls _ _ _ (HB.out.below hb1)).mono ?_); rintro e w2 ⟨v2, rfl, ho2, hb2⟩; rw [HXS.out] at ho2)
        | (go_at_call 14; (with_reducible refine (seal_calls _ _ _ ho2.bys HQ3.out).mono ?_); rintro e w3 ⟨v3, rfl, ho3, hb3⟩; rw [HSS.out] at ho3; obtain ⟨A3, c3, rfl⟩ := bys_len ho3.bys)
        | (go_at_call 18; rw [← HZ.out]; (with_reducible refine (spoil_calls0 _ S N m _ ho3.bys HQ1.out HQ0.out).mono ?_); rintro e w4 ⟨hb4, h4⟩; rw [K1.out] at h4; subst h4; rw [HZ.out])
        | fail)
      go_ret
      exact ⟨rfl, below_tr (below_tr (below_tr hb1 hb2) hb3) hb4⟩
    · have hmf : (nb m == (0 : Int)) = false := by simpa using hm
      have hfar : decide ((N : Int) + 32 > (L : Int)) = true := decide_eq_true (by
        rcases hor with h | h
        · exact absurd (by rw [h]; rfl) hm
        · have hl := HLL.out
          clear e0 e1 e2 e3 e4 e5 e6 e7 e8 e9
          omega)
      have HM := Lib.hid hm
      clear hm hor
      generalize hz : nb m = z at *
      have HZ := Lib.hid hz
      clear hz
      go_enter Try.func5, Try.ntmps5
      go_wp2_with (first
        | (go_at_call 9; (with_reducible refine (HW.out _).mono ?_); rintro e w1 ⟨rfl, hb1⟩)
        | (go_at_call 13; (with_reducible refine (few_calls _ _ _ (HB.out.below hb1)).mono ?_); rintro e w2 ⟨v2, rfl, ho2, hb2⟩; rw [HXS.out] at ho2)
        | (go_at_call 14; (with_reducible refine (seal_calls _ _ _ ho2.bys HQ3.out).mono ?_); rintro e w3 ⟨v3, rfl, ho3, hb3⟩; rw [HSS.out] at ho3; obtain ⟨A3, c3, rfl⟩ := bys_len ho3.bys)
        | (go_at_call 18; rw [← HZ.out]; (with_reducible refine (spoil_calls0 _ S N m _ ho3.bys HQ1.out HQ0.out).mono ?_); rintro e w4 ⟨hb4, h4⟩; rw [K1.out] at h4; subst h4; rw [HZ.out])
        | fail)
      go_ret
      exact ⟨rfl, below_tr (below_tr (below_tr hb1 hb2) hb3) hb4⟩
end Go.Proofs.Ytekbjgnlaompbaa
