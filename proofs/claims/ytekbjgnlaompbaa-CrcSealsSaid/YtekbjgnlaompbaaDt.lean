/- The law of tails: the walk. -/
import Derived.Test.YtekbjgnlaompbaaDc
namespace Go.Proofs.Ytekbjgnlaompbaa
open Go.RowKit
set_option linter.unusedSimpArgs false
/-- The slice v holds pairs of words. -/
def Prs (w : World) (v : Value) (ps : List (W32 × W32)) : Prop :=
  ∃ A cap, v = .slice A ps.length cap ∧ ps.length ≤ maxLen ∧ (0 < ps.length → ∃ b off, A = some ⟨b, off, none⟩ ∧ ∀ j, j < ps.length → w.cell? ⟨b, off + j * 2, none⟩ = some (.int .u32 (nb (ps.getD j (0, 0)).1)) ∧ w.cell? ⟨b, off + j * 2 + 1, none⟩ = some (.int .u32 (nb (ps.getD j (0, 0)).2)))
set_option maxRecDepth 100000 in
set_option maxHeartbeats 4000000 in
theorem tails_calls (hwk : WakesOk) (v : Value) (ps : List (W32 × W32)) (w : World) (hp : Prs w v ps) :
    Calls Try.prog 3 #[v] w fun e w' => e = .returned (.bool true) ∧ Below w.heap.size w w' := by
  obtain ⟨A, cap, rfl, hl, hc⟩ := hp
  unfold maxLen at hl
  have HC := Lib.hid hc
  have HL := Lib.hid hl
  have HW : Hid (∀ w : World, Calls Try.prog 9 #[] w fun e w' => e = .returned (.bool true) ∧ Below w.heap.size w w') := Lib.hid hwk
  clear hc hwk
  go_enter Try.func3, Try.ntmps3
  go_wp2_with (first
    | (go_at_call 9; (with_reducible refine (HW.out _).mono ?_); rintro e w1 ⟨rfl, hb1⟩)
    | fail)
  go_loopw [10, 3, 4, 5] (fun i _ _ _ wr => ∃ k : Nat, k ≤ ps.length ∧ k ≤ 8 ∧ i = .int .i64 k ∧ Below w.heap.size w wr) (fun i _ _ _ _ => 9 - (intOf i).toNat)
  case atStart => exact ⟨0, by omega, by omega, rfl, hb1⟩
  case round =>
    obtain ⟨k, hk, hk8, rfl, hbr⟩ := hrel
    by_cases hlt : k < ps.length
    · have hd : decide (k < ps.length) = true := by simpa using hlt
      obtain ⟨b, off, rfl, hcell⟩ := HC.out (by omega)
      obtain ⟨c0, c1⟩ := hcell k hlt
      have d0 := (hbr.cell (p := ⟨b, off + k * 2, none⟩) (World.block_lt_of_cell? w _ c0)).trans c0
      have d1 := (hbr.cell (p := ⟨b, off + k * 2 + 1, none⟩) (World.block_lt_of_cell? w _ c1)).trans c1
      generalize hx : (ps.getD k (0, 0)).1 = x at *
      generalize hy : (ps.getD k (0, 0)).2 = y at *
      have i0 : (0 : Int) ≤ (k : Int) := by omega
      have i1 : (k : Int) < (ps.length : Int) := by omega
      have HBR := Lib.hid hbr
      clear hx hy hcell c0 c1 hbr
      by_cases h8 : k = 8
      · subst h8
        go_wp2
        go_ret
        exact ⟨rfl, HBR.out.alloc HBR.out.size _⟩
      · have h8' : ((k : Int) == 8) = false := by simp; omega
        have hT : tailW x y = tailW x y := rfl
        generalize hz : tailW x y = z at hT
        have HZ := Lib.hid hz
        clear hT hz
        go_wp2_with (go_at_call 10; (with_reducible refine (tail_calls x y _).mono ?_); rintro e w2 ⟨rfl, hb2⟩; rw [HZ.out]; simp only [fourV])
        have g2 : w2.heap[wr.heap.size]? = some (.cells #[.int .u32 (nb x), .int .u32 (nb y)] 25 (0, 0)) := (hb2.block _ (by simp)).trans (new_here wr _)
        have hbz : Bys (w2.alloc (.cells #[.int .u8 (bn (byt0 z)), .int .u8 (bn (byt1 z)), .int .u8 (bn (byt2 z)), .int .u8 (bn (byt3 z))] 26)) (.slice (some ⟨w2.heap.size, 0, none⟩) 4 4) (fourB z) := bys_of_heap (bs := fourB z) (t := 26) (new_here w2 _) (by simp [fourB, maxLen])
        have g3 := new_next w2 (.cells #[.int .u8 (bn (byt0 z)), .int .u8 (bn (byt1 z)), .int .u8 (bn (byt2 z)), .int .u8 (bn (byt3 z))] 26) g2
        have hB3 : Below w.heap.size w (w2.alloc (.cells #[.int .u8 (bn (byt0 z)), .int .u8 (bn (byt1 z)), .int .u8 (bn (byt2 z)), .int .u8 (bn (byt3 z))] 26)) := below_al (below_tr (HBR.out.alloc HBR.out.size _) hb2) _
        generalize w2.alloc (.cells #[.int .u8 (bn (byt0 z)), .int .u8 (bn (byt1 z)), .int .u8 (bn (byt2 z)), .int .u8 (bn (byt3 z))] 26) = w3 at *
        have hk : ∀ W, Below w3.heap.size w3 W → W.cell? ⟨wr.heap.size, 0, none⟩ = some (.int .u32 (nb x)) ∧ W.cell? ⟨wr.heap.size, 1, none⟩ = some (.int .u32 (nb y)) := fun W h => by
          have h2 := (h.block _ (lt_of_heap g3)).trans g3
          exact ⟨cell_of_heap h2, cell_of_heap h2⟩
        have HK := Lib.hid hk
        have HBZ := Lib.hid hbz
        have HB3 := Lib.hid hB3
        clear hk hbz hB3 g2 g3 hb2
        go_region_held3 (fun W => W.cell? ⟨wr.heap.size, 0, none⟩ = some (.int .u32 (nb x)) ∧ W.cell? ⟨wr.heap.size, 1, none⟩ = some (.int .u32 (nb y))) ((refine HK.out _ ?_; (repeat (with_reducible first | exact Below.refl _ _ | apply below_dr | apply below_dn | apply below_al | assumption)))) (first
          | (go_at_call 12; (with_reducible refine (rtail_calls x y _).mono ?_); rintro e w4 ⟨v4, rfl, ho4, hb4⟩; rw [HZ.out] at ho4; (have hb4' := below_tr (below_dr (Below.refl w3.heap.size w3)) hb4))
          | (go_at_call 11; (with_reducible refine (equal_same _ _ (fourB z) _ (HBZ.out.below hb4') ho4.bys).mono ?_); rintro e w5 ⟨rfl, n5, rfl⟩))
        go_wp2
        go_roundw
        case rel => exact ⟨k + 1, by omega, by omega, by go_num, below_dn (below_tr HB3.out hb4') _⟩
        case measure => simp [intOf]; omega
    · have hd : decide (k < ps.length) = false := by simpa using hlt
      go_wp2
      go_ret
      exact ⟨rfl, hbr⟩
end Go.Proofs.Ytekbjgnlaompbaa
