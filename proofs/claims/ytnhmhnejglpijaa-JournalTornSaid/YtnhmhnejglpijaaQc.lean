/- octet: a number is laid: walks. -/
import Derived.Test.YtnhmhnejglpijaaQb
namespace Go.Proofs.Ytnhmhnejglpijaa
open Go.RowKit
set_option maxRecDepth 100000
set_option linter.unusedSimpArgs false
set_option linter.unusedVariables false
def layCells (N k : Nat) : Array Value := ((List.range 8).map fun j => Value.int .u8 (if 8 ≤ j + k then bn (byteN N (7 - j)) else 0)).toArray
theorem layCells_get (N k j : Nat) (hj : j < 8) : (layCells N k)[j]? = some (.int .u8 (if 8 ≤ j + k then bn (byteN N (7 - j)) else 0)) := by
  simp [layCells, hj]
theorem layCells_set (N k : Nat) (hk : k < 8) : (layCells N k).setIfInBounds (7 - k) (.int .u8 (bn (byteN N k))) = layCells N (k + 1) := by
  simp only [layCells, List.setIfInBounds_toArray]
  congr 1
  apply List.ext_getElem?
  intro i
  rw [List.getElem?_set]
  by_cases h : 7 - k = i
  · subst h
    rw [if_pos rfl, if_pos (by simp; omega)]
    have h1 : 7 - k < 8 := by omega
    have h2 : 7 - (7 - k) = k := by omega
    simp [h1, h2]
    omega
  · rw [if_neg h]
    by_cases h8 : i < 8
    · simp only [List.getElem?_map, List.getElem?_range h8, Option.map_some]
      by_cases h3 : 8 ≤ i + k
      · rw [if_pos h3, if_pos (by omega)]
      · rw [if_neg h3, if_neg (by omega)]
    · rw [List.getElem?_eq_none (by simp; omega), List.getElem?_eq_none (by simp; omega)]
theorem byteN_val (N i : Nat) : IntKind.u8.wrap ((N : Int) / (2 : Int) ^ (8 * i)) = bn (byteN N i) := by
  rw [IntKind.wrap_u8]
  unfold bn byteN
  rw [BitVec.toNat_ofNat]
  push_cast
  rfl
theorem layW_get (width N j : Nat) (hj : j < width) : byteAt (layW width N) j = byteN N (width - 1 - j) := by
  simp [byteAt, layW, List.getD_eq_getElem?_getD, hj]
theorem laid_bys {W : World} {b N width : Nat} (h8 : width ≤ 8) (h : W.heap[b]? = some (.cells (layCells N 8) 175 (0, 0))) : Bys W (.slice (some ⟨b, 8 - width, none⟩) width width) (layW width N) := by
  have hl := layW_length width N
  refine ⟨_, width, by rw [hl], by omega, by simp [maxLen]; omega, (fun e => by cases e), fun _ => ⟨b, 8 - width, rfl, fun j hj => ?_⟩⟩
  rw [hl] at hj
  rw [cell_of_heap h, layCells_get N 8 _ (by omega), if_pos (by omega), layW_get width N j hj]
  congr 4
  omega
theorem slice_arr (width : Nat) (h1 : 1 ≤ width) (h8 : width ≤ 8) (g : Nat) : ∀ W : World, (Instr.sliceAt 175 (.pointer (some ⟨g, 0, none⟩)) (some (.int .i64 (8 - (width : Int)))) none none).run Try.prog W = .ok (.slice (some ⟨g, 8 - width, none⟩) width width) W := by
  intro W
  have h : width = 1 ∨ width = 2 ∨ width = 3 ∨ width = 4 ∨ width = 5 ∨ width = 6 ∨ width = 7 ∨ width = 8 := by omega
  rcases h with rfl | rfl | rfl | rfl | rfl | rfl | rfl | rfl
  all_goals (show (_ : Result Value) = _; kernel_rfl)
set_option maxHeartbeats 2000000 in
theorem laid_calls (width N : Nat) (h1 : 1 ≤ width) (h8 : width ≤ 8) (hN : N < 18446744073709551616) (hf : N < 2 ^ (8 * width)) (w : World) :
    Calls Try.prog 125 #[.int .i64 width, .int .u64 N] w fun e w' => e = .returned (.slice (some ⟨w.heap.size, 8 - width, none⟩) width width) ∧ Bys w' (.slice (some ⟨w.heap.size, 8 - width, none⟩) width width) (layW width N) ∧ Below w.heap.size w w' := by
  have hsh : (N : Int) / (2 : Int) ^ (8 * width) = 0 := by
    have : ((N / 2 ^ (8 * width) : Nat) : Int) = 0 := by rw [Nat.div_eq_of_lt hf]; rfl
    push_cast at this
    exact this
  have a1 : (1 : Int) ≤ (width : Int) := by omega
  have a2 : (width : Int) ≤ 8 := by omega
  have HF := Lib.hid hf
  have H8 := Lib.hid h8
  have HSL := Lib.hid (slice_arr width h1 h8 w.heap.size)
  have HWD := Lib.hid (is_width width h1 h8)
  clear hf h1 h8
  have hz : Hid ((w.alloc (.cells #[.int .u8 0, .int .u8 0, .int .u8 0, .int .u8 0, .int .u8 0, .int .u8 0, .int .u8 0, .int .u8 0] 175)).heap[w.heap.size]? = some (.cells (layCells N 0) 175 (0, 0))) := Lib.hid (new_here w _)
  have hbl : Hid (Below w.heap.size w (w.alloc (.cells #[.int .u8 0, .int .u8 0, .int .u8 0, .int .u8 0, .int .u8 0, .int .u8 0, .int .u8 0, .int .u8 0] 175))) := Lib.hid (below_al (Below.refl _ _) _)
  by_cases hw8 : width = 8
  · have hq : ((width : Int) == 8) = true := by rw [beq_iff_eq]; omega
    clear hw8
    go_enter Try.func125, Try.ntmps125
    go_wp2_with (first
      | (go_at_call 131; (with_reducible refine (HWD.out _).mono ?_); rintro e w' ⟨rfl, rfl⟩)
      | (go_at_call 130; (with_reducible refine (need130_ok _ _).mono ?_); rintro e w' ⟨rfl, rfl⟩))
    go_loopw [6, 20] (fun _ i wr => ∃ k : Nat, k ≤ 8 ∧ i = .int .i64 k ∧ Hid (Below w.heap.size w wr ∧ wr.heap[w.heap.size]? = some (.cells (layCells N k) 175 (0, 0)))) (fun _ i _ => 8 - (intOf i).toNat)
    case atStart => exact ⟨0, by decide, rfl, Lib.hid ⟨hbl.out, hz.out⟩⟩
    case round =>
      obtain ⟨k, hk, rfl, HR⟩ := hrel
      by_cases hlt : k < 8
      · have hd : decide ((k : Int) < 8) = true := decide_eq_true (by omega)
        have i0 : (0 : Int) ≤ 7 - (k : Int) := by omega
        have i1 : 7 - (k : Int) < 8 := by omega
        have i2 : 8 * (k : Int) ≤ 56 := by omega
        have i3 : 0 ≤ 8 * (k : Int) := by omega
        have c0 : wr.cell? ⟨w.heap.size, 7 - k, none⟩ = some (.int .u8 (if 8 ≤ (7 - k) + k then bn (byteN N (7 - (7 - k))) else 0)) := (cell_of_heap HR.out.2).trans (layCells_get N k _ (by omega))
        have f0 : wr.frozen? ⟨w.heap.size, 7 - k, none⟩ = false := free_of_heap HR.out.2
        have hv := byteN_val N k
        have HN : Hid (Below w.heap.size w (wr.setCell ⟨w.heap.size, 7 - k, none⟩ (.int .u8 (bn (byteN N k)))) ∧ (wr.setCell ⟨w.heap.size, 7 - k, none⟩ (.int .u8 (bn (byteN N k)))).heap[w.heap.size]? = some (.cells (layCells N (k + 1)) 175 (0, 0))) := Lib.hid ⟨HR.out.1.setCell (p := ⟨w.heap.size, 7 - k, none⟩) (Nat.le_refl _) _, by rw [heap_setCell_same _ w.heap.size (7 - k) _ _ _ _ HR.out.2, layCells_set N k hlt]⟩
        go_wp2
        go_roundw
        case rel => exact ⟨k + 1, by omega, by go_num, HN⟩
        case measure => simp [intOf]; omega
      · have hd : decide ((k : Int) < 8) = false := decide_eq_false (by omega)
        have h8 : k = 8 := by omega
        have HK : Hid (wr.heap[w.heap.size]? = some (.cells (layCells N 8) 175 (0, 0))) := Lib.hid (by rw [← h8]; exact HR.out.2)
        clear h8
        have hsl := HSL.out
        go_wp2
        go_ret
        exact ⟨rfl, laid_bys H8.out HK.out, HR.out.1⟩
  · have hq : ((width : Int) == 8) = false := by rw [beq_eq_false_iff_ne]; omega
    clear hw8
    go_enter Try.func125, Try.ntmps125
    go_wp2_with (first
      | (go_at_call 131; (with_reducible refine (HWD.out _).mono ?_); rintro e w' ⟨rfl, rfl⟩)
      | (go_at_call 130; (with_reducible refine (need130_ok _ _).mono ?_); rintro e w' ⟨rfl, rfl⟩))
    go_loopw [6, 20] (fun _ i wr => ∃ k : Nat, k ≤ 8 ∧ i = .int .i64 k ∧ Hid (Below w.heap.size w wr ∧ wr.heap[w.heap.size]? = some (.cells (layCells N k) 175 (0, 0)))) (fun _ i _ => 8 - (intOf i).toNat)
    case atStart => exact ⟨0, by decide, rfl, Lib.hid ⟨hbl.out, hz.out⟩⟩
    case round =>
      obtain ⟨k, hk, rfl, HR⟩ := hrel
      by_cases hlt : k < 8
      · have hd : decide ((k : Int) < 8) = true := decide_eq_true (by omega)
        have i0 : (0 : Int) ≤ 7 - (k : Int) := by omega
        have i1 : 7 - (k : Int) < 8 := by omega
        have i2 : 8 * (k : Int) ≤ 56 := by omega
        have i3 : 0 ≤ 8 * (k : Int) := by omega
        have c0 : wr.cell? ⟨w.heap.size, 7 - k, none⟩ = some (.int .u8 (if 8 ≤ (7 - k) + k then bn (byteN N (7 - (7 - k))) else 0)) := (cell_of_heap HR.out.2).trans (layCells_get N k _ (by omega))
        have f0 : wr.frozen? ⟨w.heap.size, 7 - k, none⟩ = false := free_of_heap HR.out.2
        have hv := byteN_val N k
        have HN : Hid (Below w.heap.size w (wr.setCell ⟨w.heap.size, 7 - k, none⟩ (.int .u8 (bn (byteN N k)))) ∧ (wr.setCell ⟨w.heap.size, 7 - k, none⟩ (.int .u8 (bn (byteN N k)))).heap[w.heap.size]? = some (.cells (layCells N (k + 1)) 175 (0, 0))) := Lib.hid ⟨HR.out.1.setCell (p := ⟨w.heap.size, 7 - k, none⟩) (Nat.le_refl _) _, by rw [heap_setCell_same _ w.heap.size (7 - k) _ _ _ _ HR.out.2, layCells_set N k hlt]⟩
        go_wp2
        go_roundw
        case rel => exact ⟨k + 1, by omega, by go_num, HN⟩
        case measure => simp [intOf]; omega
      · have hd : decide ((k : Int) < 8) = false := decide_eq_false (by omega)
        have h8 : k = 8 := by omega
        have HK : Hid (wr.heap[w.heap.size]? = some (.cells (layCells N 8) 175 (0, 0))) := Lib.hid (by rw [← h8]; exact HR.out.2)
        clear h8
        have hsl := HSL.out
        go_wp2
        go_ret
        exact ⟨rfl, laid_bys H8.out HK.out, HR.out.1⟩
set_option maxHeartbeats 1000000 in
theorem behind_calls (v1 v2 : Value) (bs cs : List B8) (w : World) (h1 : Bys w v1 bs) (h2 : Bys w v2 cs) (hl : bs.length + cs.length ≤ 1099511627776) :
    Calls Try.prog 124 #[v1, v2] w fun e w' => ∃ v', e = .returned v' ∧ Own8 w' w.heap.size v' (bs ++ cs) ∧ Below w.heap.size w w' := by
  obtain ⟨A, cap, rfl, hc1, hc2, hc3, hc4⟩ := id h1
  obtain ⟨A2, cap2, rfl, hd1, hd2, hd3, hd4⟩ := id h2
  have HB := Lib.hid h1
  have HC := Lib.hid h2
  clear h1 h2 hc3 hc4 hd3 hd4
  unfold maxLen at hc2 hd2
  have hmk : ∀ w, (Instr.makeSlice 34 (.int .i64 bs.length) (.int .i64 ((bs.length : Int) + (cs.length : Int)))).run Try.prog w = .ok (.slice (some ⟨w.heap.size, 0, none⟩) bs.length (bs.length + cs.length)) (w.alloc (.cells (zb (bs.length + cs.length)) 5)) := fun w => run_make8 w bs.length (bs.length + cs.length) (by omega) (by omega)
  go_enter Try.func124, Try.ntmps124
  go_wp2_with (first
    | (refine wpList_copy_splice rfl (.tmp 14) (.tmp 15) 34 34 rfl 5 Try.underlying34 (by kernel_rfl) _ _ _ _ _ _ rfl rfl w.heap.size 0 (bvals (List.replicate (bs.length + cs.length) 0#8)) 5 ?hg (bvals bs) ?hn ?hpos ?hfit (bvals_one bs) w.heap.size _ (Below.refl _ _) (Nat.le_refl _) ?_; rotate_left 4; intro w6 hg6 hb6)
    | (at_builtin; refine wpList_app8 rfl (.tmp 17) (.tmp 18) rfl w.heap.size _ _ bs cs rfl ?ha rfl ?hx ?hl ?hbase ?_; rotate_left 4; intro v' w7 h7 h8 _))
  case hg => exact new_here w _
  case hn => simp [bvals_length]
  case hfit => simp [bvals_length]
  case hpos =>
    intro hp
    obtain ⟨A', cap', e, _, _, _, h4⟩ := HB.out.below (below_al (Below.refl _ w) (.cells (zb (bs.length + cs.length)) 5))
    cases e
    rw [bvals_length] at hp
    obtain ⟨b, off, e, hc⟩ := h4 hp
    refine ⟨_, e, fun j u hu => ?_⟩
    obtain ⟨hj, rfl⟩ := bvals_get' hu
    rw [add_off]
    exact hc j hj
  case ha =>
    refine own8_of_heap (cur := bvals (bs ++ List.replicate cs.length 0#8)) (Nat.le_refl _) ?_ (by simp [bvals_length]) rfl (by omega) (by simp [maxLen]; omega) (by rw [bvals_append]; exact List.take_left' (bvals_length bs))
    rw [← splice_front bs cs.length]
    exact hg6.out
  case hx => exact HC.out.below ((below_al (Below.refl _ w) (.cells (zb (bs.length + cs.length)) 5)).trans hb6)
  case hl => omega
  case hbase => have := hb6.size; simp at this; omega
  go_ret
  refine ⟨_, rfl, h7, ?_⟩
  have hs6 := hb6.size
  simp at hs6
  exact ((below_al (Below.refl _ w) (.cells (zb (bs.length + cs.length)) 5)).trans hb6).grown h8 (by omega) (fun k e => by have h : w.heap.size = k := (by simpa [Act.eval, Value.ownBlock] using e); omega)
end Go.Proofs.Ytnhmhnejglpijaa
