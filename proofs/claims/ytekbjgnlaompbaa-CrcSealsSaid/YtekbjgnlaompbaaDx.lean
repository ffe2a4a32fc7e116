/- The law of wants: the walk. -/
import Derived.Test.YtekbjgnlaompbaaDw
import Derived.Test.YtekbjgnlaompbaaDt
namespace Go.Proofs.Ytekbjgnlaompbaa
open Go.RowKit
set_option linter.unusedSimpArgs false
set_option maxRecDepth 100000 in
set_option maxHeartbeats 4000000 in
theorem wants_calls (hwk : WakesOk) (v : Value) (bs : List B8) (m z : W32) (w : World) (hb : Bys w v bs) :
    Calls Try.prog 8 #[v, .int .u32 (nb m), fourV z] w fun e w' => e = .returned (.bool true) ∧ Below w.heap.size w w' := by
  have HB := Lib.hid hb
  have HW : Hid (∀ w : World, Calls Try.prog 9 #[] w fun e w' => e = .returned (.bool true) ∧ Below w.heap.size w w') := Lib.hid hwk
  clear hb hwk
  generalize hxs : bs.take 400 = x
  have HXS := Lib.hid hxs
  generalize hs : moreW 0 x = s
  have HS := Lib.hid hs
  generalize ht : tailW s m = t
  have HT := Lib.hid ht
  have hf1 : nb (moreW s (fourB t)) = nb m := by rw [← ht, more_tail]
  generalize hr : moreW s (fourB z) = r
  have hf2 : tailW s r = z := by rw [← hr, tail_more]
  have hzt : r = m ↔ z = t := by
    constructor
    · intro h
      rw [← hf2, h, ht]
    · intro h
      rw [← hr, h, ← ht, more_tail]
  have HR := Lib.hid hr
  have HF1 := Lib.hid hf1
  have HF2 := Lib.hid hf2
  have hne := neq26 z z
  have hnx := equal26v z z
  simp only [fourV, decide_true, Bool.not_true] at hne hnx
  have HZT := Lib.hid hzt
  have hnm : (nb m != nb m) = false := by simp
  clear hxs hs ht hr hf1 hf2 hzt
  simp only [fourV]
  go_enter Try.func8, Try.ntmps8
  go_wp2_with (first
    | (go_at_call 9; (with_reducible refine (HW.out _).mono ?_); rintro e w1 ⟨rfl, hb1⟩)
    | (go_at_call 13; (with_reducible refine (few_calls _ _ _ ((HB.out.below (below_al (Below.refl _ _) _)).below hb1)).mono ?_); rintro e w2 ⟨v2, rfl, ho2, hb2⟩; rw [HXS.out] at ho2; obtain ⟨A2, c2, rfl⟩ := bys_len ho2.bys)
    | (go_at_call 20; (with_reducible refine (sum_E1 w2 _ (.slice A2 x.length c2) x _ ?_ ?_ ?_).mono ?_); (exact below_al (Below.refl _ _) _); (exact ho2.bys); (exact new_here w2 _); rintro e w3 ⟨rfl, hb3⟩; rw [HS.out])
    | (go_at_call 10; (with_reducible refine (tail_calls s m _).mono ?_); rintro e w4 ⟨rfl, hb4⟩; rw [HT.out]; simp only [fourV])
    | fail)
  have gz1 := (hb1.block w.heap.size (by simp)).trans (new_here w (.cells #[.int .u8 (bn (byt0 z)), .int .u8 (bn (byt1 z)), .int .u8 (bn (byt2 z)), .int .u8 (bn (byt3 z))] 26))
  have gz2 := (hb2.block _ (lt_of_heap gz1)).trans gz1
  have gz3 := (hb3.block _ (lt_of_heap gz2)).trans gz2
  have gz4 := (hb4.block _ (lt_of_heap gz3)).trans gz3
  have gz5 := new_next w4 (.cells #[.int .u8 (bn (byt0 t)), .int .u8 (bn (byt1 t)), .int .u8 (bn (byt2 t)), .int .u8 (bn (byt3 t))] 26) gz4
  have gt5 := new_here w4 (.cells #[.int .u8 (bn (byt0 t)), .int .u8 (bn (byt1 t)), .int .u8 (bn (byt2 t)), .int .u8 (bn (byt3 t))] 26)
  have hb5 : Below w.heap.size w (w4.alloc (.cells #[.int .u8 (bn (byt0 t)), .int .u8 (bn (byt1 t)), .int .u8 (bn (byt2 t)), .int .u8 (bn (byt3 t))] 26)) := below_al (below_tr (below_tr (below_tr (below_tr (below_al (Below.refl _ _) _) hb1) hb2) hb3) hb4) _
  generalize w4.alloc (.cells #[.int .u8 (bn (byt0 t)), .int .u8 (bn (byt1 t)), .int .u8 (bn (byt2 t)), .int .u8 (bn (byt3 t))] 26) = w5 at *
  have hzz : Bys w5 (.slice (some ⟨w.heap.size, 0, none⟩) 4 4) (fourB z) := bys_of_heap (bs := fourB z) (t := 26) gz5 (by simp [fourB, maxLen])
  have htt : Bys w5 (.slice (some ⟨w4.heap.size, 0, none⟩) 4 4) (fourB t) := bys_of_heap (bs := fourB t) (t := 26) gt5 (by simp [fourB, maxLen])
  have hl4 : ∀ y, 4 = (fourB y).length := fun _ => rfl
  have hk : ∀ W, Below w5.heap.size w5 W → (fun W => (W.cell? ⟨w.heap.size, 0, none⟩ = some (.int .u8 (bn (byt0 z))) ∧ W.cell? ⟨w.heap.size, 1, none⟩ = some (.int .u8 (bn (byt1 z))) ∧ W.cell? ⟨w.heap.size, 2, none⟩ = some (.int .u8 (bn (byt2 z))) ∧ W.cell? ⟨w.heap.size, 3, none⟩ = some (.int .u8 (bn (byt3 z)))) ∧ (W.cell? ⟨w4.heap.size, 0, none⟩ = some (.int .u8 (bn (byt0 t))) ∧ W.cell? ⟨w4.heap.size, 1, none⟩ = some (.int .u8 (bn (byt1 t))) ∧ W.cell? ⟨w4.heap.size, 2, none⟩ = some (.int .u8 (bn (byt2 t))) ∧ W.cell? ⟨w4.heap.size, 3, none⟩ = some (.int .u8 (bn (byt3 t))))) W := fun W h => by
    have h2 := (h.block _ (lt_of_heap gz5)).trans gz5
    have h3 := (h.block _ (lt_of_heap gt5)).trans gt5
    exact ⟨⟨cell_of_heap h2, cell_of_heap h2, cell_of_heap h2, cell_of_heap h2⟩, ⟨cell_of_heap h3, cell_of_heap h3, cell_of_heap h3, cell_of_heap h3⟩⟩
  have HK := Lib.hid hk
  have HZZ := Lib.hid hzz
  have HTT := Lib.hid htt
  have HL4 := Lib.hid hl4
  have HB5 := Lib.hid hb5
  clear hk hzz htt hl4 gz1 gz2 gz3 gz4 gz5 gt5 hb1 hb2 hb3 hb4 hb5 ho2
  go_region_held3 (fun W => (W.cell? ⟨w.heap.size, 0, none⟩ = some (.int .u8 (bn (byt0 z))) ∧ W.cell? ⟨w.heap.size, 1, none⟩ = some (.int .u8 (bn (byt1 z))) ∧ W.cell? ⟨w.heap.size, 2, none⟩ = some (.int .u8 (bn (byt2 z))) ∧ W.cell? ⟨w.heap.size, 3, none⟩ = some (.int .u8 (bn (byt3 z)))) ∧ (W.cell? ⟨w4.heap.size, 0, none⟩ = some (.int .u8 (bn (byt0 t))) ∧ W.cell? ⟨w4.heap.size, 1, none⟩ = some (.int .u8 (bn (byt1 t))) ∧ W.cell? ⟨w4.heap.size, 2, none⟩ = some (.int .u8 (bn (byt2 t))) ∧ W.cell? ⟨w4.heap.size, 3, none⟩ = some (.int .u8 (bn (byt3 t))))) ((refine HK.out _ ?_; (repeat (with_reducible first | exact Below.refl _ _ | apply below_dr | apply below_dn | apply below_al | assumption)))) (first
    | (go_at_call 22; (with_reducible refine (mor_E w5 s _ 4 4 (fourB t) _ ?_ (HL4.out t) HTT.out).mono ?_); (repeat (with_reducible first | exact Below.refl _ _ | apply below_dr | apply below_dn | apply below_al | assumption)); rintro e w6 ⟨rfl, hb6⟩; rw [HF1.out])
    | (go_at_call 22; (with_reducible refine (mor_E w5 s _ 4 4 (fourB z) _ ?_ (HL4.out z) HZZ.out).mono ?_); (repeat (with_reducible first | exact Below.refl _ _ | apply below_dr | apply below_dn | apply below_al | assumption)); rintro e w7 ⟨rfl, hb7⟩; rw [HR.out])
    | (go_at_call 10; (with_reducible refine (tail_calls s r _).mono ?_); rintro e w8 ⟨rfl, hb8⟩; rw [HF2.out]; simp only [fourV]; (have hb8' := below_tr hb7 hb8)))
  by_cases hz : z = t
  · have HQQ : decide (z = t) = true := decide_eq_true hz
    have hE := eql26 z t
    have hX := equal26v z t
    simp only [fourV, HQQ] at hE hX
    have hrm : (nb r == nb m) = true := by rw [HZT.out.2 hz]; simp
    clear hz
    go_wp2
    go_region_held3 (fun W => (W.cell? ⟨w.heap.size, 0, none⟩ = some (.int .u8 (bn (byt0 z))) ∧ W.cell? ⟨w.heap.size, 1, none⟩ = some (.int .u8 (bn (byt1 z))) ∧ W.cell? ⟨w.heap.size, 2, none⟩ = some (.int .u8 (bn (byt2 z))) ∧ W.cell? ⟨w.heap.size, 3, none⟩ = some (.int .u8 (bn (byt3 z)))) ∧ (W.cell? ⟨w4.heap.size, 0, none⟩ = some (.int .u8 (bn (byt0 t))) ∧ W.cell? ⟨w4.heap.size, 1, none⟩ = some (.int .u8 (bn (byt1 t))) ∧ W.cell? ⟨w4.heap.size, 2, none⟩ = some (.int .u8 (bn (byt2 t))) ∧ W.cell? ⟨w4.heap.size, 3, none⟩ = some (.int .u8 (bn (byt3 t))))) ((refine HK.out _ ?_; (repeat (with_reducible first | exact Below.refl _ _ | apply below_dr | apply below_dn | apply below_al | assumption)))) (first
      | (go_at_call 22; (with_reducible refine (mor_E w5 s _ 4 4 (fourB z) _ ?_ (HL4.out z) HZZ.out).mono ?_); (repeat (with_reducible first | exact Below.refl _ _ | apply below_dr | apply below_dn | apply below_al | assumption)); rintro e w9 ⟨rfl, hb9⟩; rw [HR.out]))
    go_wp2
    go_ret
    exact ⟨rfl, below_tr HB5.out hb9⟩
  · have HQQ : decide (z = t) = false := decide_eq_false hz
    have hE := eql26 z t
    have hX := equal26v z t
    simp only [fourV, HQQ] at hE hX
    have hrm : (nb r == nb m) = false := by rw [beq_eq_false_iff_ne]; exact fun h => hz (HZT.out.1 (nb_inj h))
    clear hz
    go_wp2
    go_region_held3 (fun W => (W.cell? ⟨w.heap.size, 0, none⟩ = some (.int .u8 (bn (byt0 z))) ∧ W.cell? ⟨w.heap.size, 1, none⟩ = some (.int .u8 (bn (byt1 z))) ∧ W.cell? ⟨w.heap.size, 2, none⟩ = some (.int .u8 (bn (byt2 z))) ∧ W.cell? ⟨w.heap.size, 3, none⟩ = some (.int .u8 (bn (byt3 z)))) ∧ (W.cell? ⟨w4.heap.size, 0, none⟩ = some (.int .u8 (bn (byt0 t))) ∧ W.cell? ⟨w4.heap.size, 1, none⟩ = some (.int .u8 (bn (byt1 t))) ∧ W.cell? ⟨w4.heap.size, 2, none⟩ = some (.int .u8 (bn (byt2 t))) ∧ W.cell? ⟨w4.heap.size, 3, none⟩ = some (.int .u8 (bn (byt3 t))))) ((refine HK.out _ ?_; (repeat (with_reducible first | exact Below.refl _ _ | apply below_dr | apply below_dn | apply below_al | assumption)))) (first
      | (go_at_call 22; (with_reducible refine (mor_E w5 s _ 4 4 (fourB z) _ ?_ (HL4.out z) HZZ.out).mono ?_); (repeat (with_reducible first | exact Below.refl _ _ | apply below_dr | apply below_dn | apply below_al | assumption)); rintro e w9 ⟨rfl, hb9⟩; rw [HR.out]))
    go_wp2
    go_ret
    exact ⟨rfl, below_tr HB5.out hb9⟩
end Go.Proofs.Ytekbjgnlaompbaa
