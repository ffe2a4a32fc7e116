/- few; sealed bytes. -/
import Derived.Test.YtekbjgnlaompbaaCj
namespace Go.Proofs.Ytekbjgnlaompbaa
open Go.RowKit
theorem Bys.take {w : World} {A : Option Addr} {n cap : Nat} {bs : List B8} (h : Bys w (.slice A n cap) bs) (m : Nat) (hm : m ≤ n) : Bys w (.slice A m cap) (bs.take m) := by
  obtain ⟨A', cap', e, h1, h2, h3, h4⟩ := h
  cases e
  have hl : (bs.take m).length = m := by simp; omega
  refine ⟨A, cap, by rw [hl], by omega, h2, h3, fun hp => ?_⟩
  obtain ⟨b, off, e, hc⟩ := h4 (by omega)
  refine ⟨b, off, e, fun j hj => ?_⟩
  rw [hl] at hj
  rw [hc j (by omega)]
  simp [byteAt, List.getD_eq_getElem?_getD, List.getElem?_take, hj]
/-- zero bytes -/
def zb (n : Nat) : Array Value := (bvals (List.replicate n 0#8)).toArray
theorem run_make8 (w : World) (l c : Nat) (hlc : l ≤ c) (hc : c ≤ 140737488355328) :
    (Instr.makeSlice 29 (.int .i64 l) (.int .i64 c)).run Try.prog w = .ok (.slice (some ⟨w.heap.size, 0, none⟩) l c) (w.alloc (.cells (zb c) 5)) := by
  obtain ⟨i0, hi, hz0, hz1, hz2⟩ := info_parts Try.info5
  have := run_make (P := Try.prog) w 29 5 i0 _ Try.underlying29 hi hz0 .i64 .i64 l c (by omega) (by omega) (by rw [hz2]; omega) (by omega)
  rw [this, hz1, Nat.mul_one, Int.toNat_natCast, Int.toNat_natCast]
  congr 4
  rw [← Array.toList_inj]
  exact madeCells_bytes c
theorem own8_of_heap {w : World} {B g n cap : Nat} {cur : List Value} {bs : List B8} (hB : B ≤ g) (h : w.heap[g]? = some (.cells cur.toArray 5 (0, 0))) (hc : cur.length = cap) (hn : bs.length = n) (hnc : n ≤ cap) (hm : cap ≤ maxLen) (ht : cur.take n = bvals bs) :
    Own8 w B (.slice (some ⟨g, 0, none⟩) n cap) bs := by
  refine ⟨by simp [bvals_length], .inr ⟨g, cap, cur.toArray, by rw [hn], hB, h, by omega, hm, by simpa using hc, ?_⟩⟩
  rw [hn, Nat.mul_one]
  exact ht
theorem bys_of_heap {w : World} {a t : Nat} {bs : List B8} (h : w.heap[a]? = some (.cells (bvals bs).toArray t (0, 0))) (hm : bs.length ≤ maxLen) : Bys w (.slice (some ⟨a, 0, none⟩) bs.length bs.length) bs := by
  refine ⟨_, _, rfl, Nat.le_refl _, hm, (fun h => by cases h), fun _ => ⟨a, 0, rfl, fun j hj => ?_⟩⟩
  rw [Nat.zero_add, cell_of_heap h, List.getElem?_toArray, bvals_get bs j hj]
theorem fourV_cells (x : W32) : fourV x = .agg (bvals (fourB x)).toArray := rfl
/-- sealed bytes -/
def sealW (bs : List B8) : List B8 := bs ++ fourB (moreW 0 bs)
theorem splice_front (bs : List B8) (m : Nat) : splice (bvals (List.replicate (bs.length + m) 0#8)) 0 (bvals bs) = bvals (bs ++ List.replicate m 0#8) := by
  simp only [splice, List.take_zero, List.nil_append, Nat.zero_add, bvals_length, bvals_append]
  congr 1
  simp [bvals]
set_option maxRecDepth 100000 in
theorem seal_calls (v : Value) (bs : List B8) (w : World) (hb : Bys w v bs) (hl : bs.length ≤ 1099511627776) :
    Calls Try.prog 14 #[v] w fun e w' => ∃ v', e = .returned v' ∧ Own8 w' w.heap.size v' (sealW bs) ∧ Below w.heap.size w w' := by
  have hb' := hb
  obtain ⟨A, cap, rfl, hc1, hc2, hc3, hc4⟩ := hb'
  have HB := Lib.hid hb
  clear hb hc3 hc4
  unfold maxLen at hc2
  have hmk : ∀ w, (Instr.makeSlice 29 (.int .i64 bs.length) (.int .i64 ((bs.length : Int) + 4))).run Try.prog w = .ok (.slice (some ⟨w.heap.size, 0, none⟩) bs.length (bs.length + 4)) (w.alloc (.cells (zb (bs.length + 4)) 5)) := fun w => run_make8 w bs.length (bs.length + 4) (by omega) (by omega)
  go_enter Try.func14, Try.ntmps14
  go_wp2_with (first
    | (go_at_call 20; refine (sum1_calls _ bs w _ rfl HB.out).mono ?_; rintro e w2 ⟨rfl, h2⟩)
    | (go_at_call 26; refine (four_calls _ _).mono ?_; rintro e w3 ⟨rfl, h3⟩; simp only [fourV])
    | (refine wpList_copy_splice rfl (.tmp 15) (.tmp 16) 29 29 rfl 5 Try.underlying29 (by kernel_rfl) _ _ _ _ _ _ rfl rfl (w3.heap.size + 1) 0 (bvals (List.replicate (bs.length + 4) 0#8)) 5 ?hg (bvals bs) ?hn ?hpos ?hfit (bvals_one bs) (w3.heap.size + 1) _ (Below.refl _ _) (Nat.le_refl _) ?_; rotate_left 4; intro w6 hg6 hb6)
    | (at_builtin; refine wpList_app8 rfl (.tmp 18) (.tmp 19) rfl w.heap.size _ _ bs (fourB (moreW 0 bs)) rfl ?ha rfl ?hx ?hl ?hbase ?_; rotate_left 4; intro v' w7 h7 h8 _))
  case hg => exact heap_alloc2_new w3 _ _
  case hn => simp [bvals_length]
  case hfit => simp [bvals_length]
  case hpos =>
    intro hp
    have hbw : Bys ((w3.alloc (.cells (bvals (fourB (moreW 0 bs))).toArray 26)).alloc (.cells (zb (bs.length + 4)) 5)) (.slice A bs.length cap) bs := by
      refine HB.out.below ?_
      exact ((((((Below.refl _ w).alloc (Nat.le_refl _) _).trans (h2.mono (by simp))).trans (h3.mono (by have := h2.size; simp at this; omega))).alloc (by have := h2.size; have := h3.size; simp at *; omega) _).alloc (by have := h2.size; have := h3.size; simp at *; omega) _)
    obtain ⟨A', cap', e, _, _, _, h4⟩ := hbw
    cases e
    rw [bvals_length] at hp
    obtain ⟨b, off, e, hc⟩ := h4 hp
    refine ⟨_, e, fun j u hu => ?_⟩
    obtain ⟨hj, rfl⟩ := bvals_get' hu
    rw [add_off]
    exact hc j hj
  case ha =>
    refine own8_of_heap (cur := bvals (bs ++ List.replicate 4 0#8)) (by have := h2.size; have := h3.size; simp at *; omega) ?_ (by simp [bvals_length]) rfl (by omega) (by simp [maxLen]; omega) (by rw [bvals_append]; exact List.take_left' (bvals_length bs))
    rw [← splice_front bs 4]
    exact hg6
  case hx =>
    refine bys_of_heap (bs := fourB (moreW 0 bs)) (t := 26) ?_ (by simp [fourB, maxLen])
    exact (hb6.block _ (by omega)).trans (heap_alloc2_old w3 _ _)
  case hl => simp [fourB]; omega
  case hbase => have := h2.size; have := h3.size; have := hb6.size; simp at *; omega
  go_ret
  refine ⟨_, rfl, h7, ?_⟩
  have hs2 := h2.size
  have hs3 := h3.size
  have hs6 := hb6.size
  simp at hs2 hs6
  have hA : Below w.heap.size w (w3.alloc (.cells (bvals (fourB (moreW 0 bs))).toArray 26)) :=
    (((((Below.refl _ w).alloc (Nat.le_refl _) _).trans (h2.mono (by simp))).trans (h3.mono (by omega))).alloc (by omega) _)
  have hB : Below w.heap.size w w6 := (hA.alloc (by simp; omega) (.cells (zb (bs.length + 4)) 5)).trans (hb6.mono (by omega))
  exact hB.grown h8 (by omega) (fun k e => by have : w3.heap.size + 1 = k := by simpa [Act.eval, Value.ownBlock] using e
                                              omega)
theorem few_calls (v : Value) (bs : List B8) (w : World) (hb : Bys w v bs) :
    Calls Try.prog 13 #[v] w fun e w' => ∃ v', e = .returned v' ∧ Own8 w' w.heap.size v' (bs.take 400) ∧ Below w.heap.size w w' := by
  have hb' := hb
  obtain ⟨A, cap, rfl, hc1, hc2, hc3, hc4⟩ := hb'
  have HB := Lib.hid hb
  clear hb hc4
  unfold maxLen at hc2
  by_cases hl : bs.length ≤ 400
  · have ht : bs.take 400 = bs := List.take_of_length_le hl
    rw [ht]
    clear ht
    go_enter Try.func13, Try.ntmps13
    go_wp2_with (go_at_call 31; refine (clone_calls _ _ _ HB.out (by omega)).mono ?_; rintro e w' ⟨v', rfl, h1, h2⟩)
    go_ret
    exact ⟨_, rfl, h1, h2⟩
  · have hb2 := HB.out.take 400 (by omega)
    have hl2 : (bs.take 400).length = 400 := by simp; omega
    have HB2 := Lib.hid hb2
    have HL2 := Lib.hid hl2
    clear hb2 hl2
    go_enter Try.func13, Try.ntmps13
    go_wp2_with (go_at_call 31; refine (clone_calls _ _ _ HB2.out (by rw [HL2.out]; omega)).mono ?_; rintro e w' ⟨v', rfl, h1, h2⟩)
    go_ret
    exact ⟨_, rfl, h1, h2⟩
end Go.Proofs.Ytekbjgnlaompbaa
