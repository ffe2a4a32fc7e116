/- The layer does something: what the law begins with. -/
import Derived.Test.YtekbjgnlaompbaaCr
import Derived.Deep.RegionHeld3
namespace Go.Proofs.Ytekbjgnlaompbaa
open Go.RowKit
theorem below_dn {w W : World} (h : Below w.heap.size w W) (n : Nat) : Below w.heap.size w (W.drewN n) := h.drewN n
theorem more_nil : moreW 0#32 [] = 0#32 := by decide
theorem opened4 : openedW [0#8, 0#8, 0#8, 0#8] = some [] := by decide
theorem opened3 : openedW [0#8, 0#8, 0#8] = none := by decide
theorem spoilt9 : spoilW [1#8, 1#8] 9 3#32 = some [1#8, 7#8] := by decide
theorem spoilt15 : spoilW [1#8, 1#8] 15 2#32 = none := by decide
theorem tab128 : tabByte 128 = poly := by decide
theorem step9_0 : feedByte 0xFFFFFFFF#32 49#8 = 0x7C231048#32 := by decide
theorem step9_1 : feedByte 0x7C231048#32 50#8 = 0xB0ACBB32#32 := by decide
theorem step9_2 : feedByte 0xB0ACBB32#32 51#8 = 0x77B79C2D#32 := by decide
theorem step9_3 : feedByte 0x77B79C2D#32 52#8 = 0x641C1F5C#32 := by decide
theorem step9_4 : feedByte 0x641C1F5C#32 53#8 = 0x340AC5E3#32 := by decide
theorem step9_5 : feedByte 0x340AC5E3#32 54#8 = 0xF68D2C9E#32 := by decide
theorem step9_6 : feedByte 0xF68D2C9E#32 55#8 = 0xAFFC9660#32 := by decide
theorem step9_7 : feedByte 0xAFFC9660#32 56#8 = 0x651F2550#32 := by decide
theorem step9_8 : feedByte 0x651F2550#32 57#8 = 0x340BC6D9#32 := by decide
theorem more9 : moreW 0#32 [49#8, 50#8, 51#8, 52#8, 53#8, 54#8, 55#8, 56#8, 57#8] = 0xCBF43926#32 := by
  have h0 : ~~~(0#32 : W32) = 0xFFFFFFFF#32 := by decide
  simp only [moreW, feedAll, List.foldl_cons, List.foldl_nil]
  rw [h0, step9_0, step9_1, step9_2, step9_3, step9_4, step9_5, step9_6, step9_7, step9_8]
  decide
theorem step4_0 : feedByte 0xFFFFFFFF#32 1#8 = 0x5AFA20E4#32 := by decide
theorem step4_1 : feedByte 0x5AFA20E4#32 2#8 = 0x4933BD6D#32 := by decide
theorem step4_2 : feedByte 0x4933BD6D#32 3#8 = 0xAA437FE2#32 := by decide
theorem step4_3 : feedByte 0xAA437FE2#32 4#8 = 0x49C30432#32 := by decide
theorem more4 : moreW 0#32 [1#8, 2#8, 3#8, 4#8] = 0xB63CFBCD#32 := by
  have h0 : ~~~(0#32 : W32) = 0xFFFFFFFF#32 := by decide
  simp only [moreW, feedAll, List.foldl_cons, List.foldl_nil]
  rw [h0, step4_0, step4_1, step4_2, step4_3]
  decide
theorem unfedN_add (m n : Nat) (x : W32) : unfedN (m + n) x = unfedN m (unfedN n x) := by
  induction m with
  | zero => simp [unfedN]
  | succ m ih => rw [Nat.succ_add, unfedN, unfedN, ih]
theorem unstep_0 : unfedN 8 0x49C30432#32 = 0xAA437FE6#32 := by decide
theorem unstep_1 : unfedN 8 0xAA437FE6#32 = 0x4933B96E#32 := by decide
theorem unstep_2 : unfedN 8 0x4933B96E#32 = 0x5AFE23E6#32 := by decide
theorem unstep_3 : unfedN 8 0x5AFE23E6#32 = 0xFBFCFDFE#32 := by decide
theorem un32 (x : W32) : unfedN 32 x = unfedN 8 (unfedN 8 (unfedN 8 (unfedN 8 x))) := by
  rw [← unfedN_add, ← unfedN_add, ← unfedN_add]
theorem tail4' : tailW 0#32 (moreW 0#32 [1#8, 2#8, 3#8, 4#8]) = 0x04030201#32 := by
  have hn : ~~~(moreW 0#32 [1#8, 2#8, 3#8, 4#8]) = 0x49C30432#32 := by rw [more4]; decide
  rw [tailW, hn, un32, unstep_0, unstep_1, unstep_2, unstep_3]
  decide
theorem tail4 : fourV (tailW 0#32 (moreW 0#32 [1#8, 2#8, 3#8, 4#8])) = .agg #[.int .u8 1, .int .u8 2, .int .u8 3, .int .u8 4] := by
  rw [tail4']
  rfl
theorem seal0 : sealW [] = [0#8, 0#8, 0#8, 0#8] := by decide
theorem bys_made (w : World) (n : Nat) (hn : n ≤ 140737488355328) : Bys (w.alloc (.cells (zb n) 5)) (.slice (some ⟨w.heap.size, 0, none⟩) n n) (List.replicate n 0#8) := by
  have := bys_of_heap (bs := List.replicate n 0#8) (t := 5) (new_here w (.cells (zb n) 5)) (by simp [maxLen]; omega)
  simpa using this
theorem bys_lit2 (w : World) (a b : B8) : Bys (w.alloc (.cells #[.int .u8 (bn a), .int .u8 (bn b)] 5)) (.slice (some ⟨w.heap.size, 0, none⟩) 2 2) [a, b] :=
  bys_of_heap (bs := [a, b]) (t := 5) (new_here w _) (by simp [maxLen])
/-- Open of four zeros, of three. -/
theorem open_four0 (w : World) : Calls Try.prog 16 #[.slice (some ⟨w.heap.size, 0, none⟩) 4 4] (w.alloc (.cells (zb 4) 5)) fun e w' => ∃ v', e = .returned (.tuple #[v', .int .i64 0]) ∧ Bys w' v' [] ∧ Below (w.alloc (.cells (zb 4) 5)).heap.size (w.alloc (.cells (zb 4) 5)) w' := by
  refine (open_all _ _ _ (bys_made w 4 (by omega)) (by simp)).mono ?_
  rintro e w' ⟨hb, h⟩
  rw [show openedW (List.replicate 4 0#8) = some [] from opened4] at h
  obtain ⟨v', rfl, h2⟩ := h
  exact ⟨v', rfl, h2.bys, hb⟩
theorem open_three0 (w : World) : Calls Try.prog 16 #[.slice (some ⟨w.heap.size, 0, none⟩) 3 3] (w.alloc (.cells (zb 3) 5)) fun e w' => e = .returned (.tuple #[.slice none 0 0, .int .i64 120]) ∧ Below (w.alloc (.cells (zb 3) 5)).heap.size (w.alloc (.cells (zb 3) 5)) w' := by
  refine (open_all _ _ _ (bys_made w 3 (by omega)) (by simp)).mono ?_
  rintro e w' ⟨hb, h⟩
  rw [show openedW (List.replicate 3 0#8) = none from opened3] at h
  exact ⟨h, hb⟩
theorem spoil_nine (w W : World) (hW : W = w.alloc (.cells #[.int .u8 1, .int .u8 1] 5)) : Calls Try.prog 18 #[.slice (some ⟨w.heap.size, 0, none⟩) 2 2, .int .i64 9, .int .u32 3] W fun e w' => ∃ v', e = .returned (.tuple #[v', .int .i64 0]) ∧ Bys w' v' [1#8, 7#8] ∧ Below W.heap.size W w' := by
  subst hW
  refine (spoil_calls0 _ [1#8, 1#8] 9 3#32 _ (bys_lit2 w 1#8 1#8) (by simp) (by simp)).mono ?_
  rintro e w' ⟨hb, h⟩
  rw [spoilt9] at h
  obtain ⟨v', rfl, h2⟩ := h
  exact ⟨v', rfl, h2.bys, hb⟩
theorem spoil_fifteen (w W : World) (hW : W = w.alloc (.cells #[.int .u8 1, .int .u8 1] 5)) : Calls Try.prog 18 #[.slice (some ⟨w.heap.size, 0, none⟩) 2 2, .int .i64 15, .int .u32 2] W fun e w' => e = .returned (.tuple #[.slice none 0 0, .int .i64 2]) ∧ Below W.heap.size W w' := by
  subst hW
  refine (spoil_calls0 _ [1#8, 1#8] 15 2#32 _ (bys_lit2 w 1#8 1#8) (by simp) (by simp)).mono ?_
  rintro e w' ⟨hb, h⟩
  rw [spoilt15] at h
  exact ⟨h, hb⟩
def dig4 : Array Value := #[.int .u8 49, .int .u8 50, .int .u8 51, .int .u8 52]
def dig5 : Array Value := #[.int .u8 53, .int .u8 54, .int .u8 55, .int .u8 56, .int .u8 57]
theorem bys_of_heapF {w : World} {a t : Nat} {f : Nat × Nat} {bs : List B8} (h : w.heap[a]? = some (.cells (bvals bs).toArray t f)) (hm : bs.length ≤ maxLen) : Bys w (.slice (some ⟨a, 0, none⟩) bs.length bs.length) bs := by
  refine ⟨_, _, rfl, Nat.le_refl _, hm, (fun h => by cases h), fun _ => ⟨a, 0, rfl, fun j hj => ?_⟩⟩
  rw [Nat.zero_add, cell_of_heap h, List.getElem?_toArray, bvals_get bs j hj]
/-- The sum of "1234", nil, "56789". -/
theorem sum_three (a b1 b2 : Nat) (f1 f2 : Nat × Nat) (W : World) (h : W.heap[a]? = some (.cells #[.slice (some ⟨b1, 0, none⟩) 4 4, .slice none 0 0, .slice (some ⟨b2, 0, none⟩) 5 5] 29 (0, 0)))
    (h1 : W.heap[b1]? = some (.cells #[.int .u8 49, .int .u8 50, .int .u8 51, .int .u8 52] 5 f1)) (h2 : W.heap[b2]? = some (.cells #[.int .u8 53, .int .u8 54, .int .u8 55, .int .u8 56, .int .u8 57] 5 f2)) :
    Calls Try.prog 20 #[.slice (some ⟨a, 0, none⟩) 3 3] W fun e w' => e = .returned (.int .u32 3421780262) ∧ Below W.heap.size W w' := by
  have q1 : Bys W (.slice (some ⟨b1, 0, none⟩) 4 4) [49#8, 50#8, 51#8, 52#8] := bys_of_heapF (bs := [49#8, 50#8, 51#8, 52#8]) (t := 5) h1 (by simp [maxLen])
  have q2 : Bys W (.slice none 0 0) [] := ⟨none, 0, rfl, Nat.le_refl _, by simp [maxLen], fun _ => rfl, fun h => by simp at h⟩
  have q3 : Bys W (.slice (some ⟨b2, 0, none⟩) 5 5) [53#8, 54#8, 55#8, 56#8, 57#8] := bys_of_heapF (bs := [53#8, 54#8, 55#8, 56#8, 57#8]) (t := 5) h2 (by simp [maxLen])
  have hR : Rws W (.slice (some ⟨a, 0, none⟩) 3 3) [[49#8, 50#8, 51#8, 52#8], [], [53#8, 54#8, 55#8, 56#8, 57#8]] := by
    refine ⟨_, 3, rfl, by simp, fun _ => ⟨a, 0, rfl, fun j hj => ?_⟩⟩
    match j, hj with
    | 0, _ => exact ⟨_, cell_of_heap h, q1⟩
    | 1, _ => exact ⟨_, cell_of_heap h, q2⟩
    | 2, _ => exact ⟨_, cell_of_heap h, q3⟩
  refine (sum_calls _ _ _ _ _ hR).mono ?_
  rintro e w' ⟨rfl, hb⟩
  refine ⟨ret_int ?_, hb⟩
  have hf : ([[49#8, 50#8, 51#8, 52#8], [], [53#8, 54#8, 55#8, 56#8, 57#8]] : List (List B8)).flatten = [49#8, 50#8, 51#8, 52#8, 53#8, 54#8, 55#8, 56#8, 57#8] := rfl
  show nb (moreW 0#32 _) = _
  rw [hf, more9]
  rfl
theorem sum_none (W0 W : World) (hB : Below W0.heap.size W0 W) : Calls Try.prog 20 #[.slice none 0 0] W fun e w' => e = .returned (.int .u32 0) ∧ Below W0.heap.size W0 w' := by
  refine (sum_calls none 0 0 [] W ⟨none, 0, rfl, by simp, fun h => by simp at h⟩).mono ?_
  rintro e w' ⟨rfl, hb⟩
  refine ⟨ret_int ?_, below_tr hB hb⟩
  show nb (moreW 0#32 []) = _
  rw [more_nil]
  rfl
theorem sum_1234 (a b : Nat) (W : World) (h : W.heap[a]? = some (.cells #[.slice (some ⟨b, 0, none⟩) 4 4] 29 (0, 0))) (h1 : W.heap[b]? = some (.cells #[.int .u8 1, .int .u8 2, .int .u8 3, .int .u8 4] 5 (0, 0))) :
    Calls Try.prog 20 #[.slice (some ⟨a, 0, none⟩) 1 1] W fun e w' => e = .returned (.int .u32 (nb (moreW 0#32 [1#8, 2#8, 3#8, 4#8]))) ∧ Below W.heap.size W w' :=
  sum_any a _ _ _ rfl W h (bys_of_heap (bs := [1#8, 2#8, 3#8, 4#8]) (t := 5) h1 (by simp [maxLen]))
theorem sum_threeE (W0 : World) (a : Nat) (W : World) (hB : Below W0.heap.size W0 W) (h : ∃ b1 b2 f1 f2, W.heap[a]? = some (.cells #[.slice (some ⟨b1, 0, none⟩) 4 4, .slice none 0 0, .slice (some ⟨b2, 0, none⟩) 5 5] 29 (0, 0)) ∧
    W.heap[b1]? = some (.cells #[.int .u8 49, .int .u8 50, .int .u8 51, .int .u8 52] 5 f1) ∧ W.heap[b2]? = some (.cells #[.int .u8 53, .int .u8 54, .int .u8 55, .int .u8 56, .int .u8 57] 5 f2)) :
    Calls Try.prog 20 #[.slice (some ⟨a, 0, none⟩) 3 3] W fun e w' => e = .returned (.int .u32 3421780262) ∧ Below W0.heap.size W0 w' := by
  obtain ⟨b1, b2, f1, f2, h0, h1, h2⟩ := h
  exact (sum_three a b1 b2 f1 f2 W h0 h1 h2).mono fun _ _ ⟨he, hb⟩ => ⟨he, below_tr hB hb⟩
theorem sum_1234E (W0 : World) (a : Nat) (W : World) (hB : Below W0.heap.size W0 W) (h : ∃ b, W.heap[a]? = some (.cells #[.slice (some ⟨b, 0, none⟩) 4 4] 29 (0, 0)) ∧ W.heap[b]? = some (.cells #[.int .u8 1, .int .u8 2, .int .u8 3, .int .u8 4] 5 (0, 0))) :
    Calls Try.prog 20 #[.slice (some ⟨a, 0, none⟩) 1 1] W fun e w' => e = .returned (.int .u32 (nb (moreW 0#32 [1#8, 2#8, 3#8, 4#8]))) ∧ Below W0.heap.size W0 w' := by
  obtain ⟨b, h0, h1⟩ := h
  exact (sum_1234 a b W h0 h1).mono fun _ _ ⟨he, hb⟩ => ⟨he, below_tr hB hb⟩
theorem heap_alloc_if (w : World) (o : Obj) (i : Nat) : (w.alloc o).heap[i]? = if i = w.heap.size then some o else w.heap[i]? := by
  by_cases h : i = w.heap.size
  · rw [if_pos h, h]; exact new_here w o
  · rw [if_neg h]
    by_cases h2 : i < w.heap.size
    · exact Below.heap_alloc w o i h2
    · rw [Array.getElem?_eq_none (by simp; omega), Array.getElem?_eq_none (by omega)]
theorem sz01 (n : Nat) : (n = n + 1) = False := eq_false (by omega)
theorem sz02 (n : Nat) : (n = n + 1 + 1) = False := eq_false (by omega)
theorem sz03 (n : Nat) : (n = n + 1 + 1 + 1) = False := eq_false (by omega)
theorem sz04 (n : Nat) : (n = n + 1 + 1 + 1 + 1) = False := eq_false (by omega)
theorem sz10 (n : Nat) : (n + 1 = n) = False := eq_false (by omega)
theorem sz12 (n : Nat) : (n + 1 = n + 1 + 1) = False := eq_false (by omega)
theorem sz13 (n : Nat) : (n + 1 = n + 1 + 1 + 1) = False := eq_false (by omega)
theorem sz14 (n : Nat) : (n + 1 = n + 1 + 1 + 1 + 1) = False := eq_false (by omega)
theorem sz20 (n : Nat) : (n + 1 + 1 = n) = False := eq_false (by omega)
theorem sz21 (n : Nat) : (n + 1 + 1 = n + 1) = False := eq_false (by omega)
theorem sz23 (n : Nat) : (n + 1 + 1 = n + 1 + 1 + 1) = False := eq_false (by omega)
theorem sz24 (n : Nat) : (n + 1 + 1 = n + 1 + 1 + 1 + 1) = False := eq_false (by omega)
theorem sz30 (n : Nat) : (n + 1 + 1 + 1 = n) = False := eq_false (by omega)
theorem sz31 (n : Nat) : (n + 1 + 1 + 1 = n + 1) = False := eq_false (by omega)
theorem sz32 (n : Nat) : (n + 1 + 1 + 1 = n + 1 + 1) = False := eq_false (by omega)
theorem sz34 (n : Nat) : (n + 1 + 1 + 1 = n + 1 + 1 + 1 + 1) = False := eq_false (by omega)
theorem sz40 (n : Nat) : (n + 1 + 1 + 1 + 1 = n) = False := eq_false (by omega)
theorem sz41 (n : Nat) : (n + 1 + 1 + 1 + 1 = n + 1) = False := eq_false (by omega)
theorem sz42 (n : Nat) : (n + 1 + 1 + 1 + 1 = n + 1 + 1) = False := eq_false (by omega)
theorem sz43 (n : Nat) : (n + 1 + 1 + 1 + 1 = n + 1 + 1 + 1) = False := eq_false (by omega)
theorem bys_zero (a : Nat) (W : World) (h : W.heap[a]? = some (.cells (zb 4) 5 (0, 0))) : Bys W (.slice (some ⟨a, 0, none⟩) 4 4) [0#8, 0#8, 0#8, 0#8] :=
  bys_of_heap (bs := [0#8, 0#8, 0#8, 0#8]) (t := 5) h (by simp [maxLen])
theorem four_le : 4 ≤ 140737488355328 := by omega
theorem heap_drew' (w : World) : w.drew.heap = w.heap := rfl
theorem equal_same (v1 v2 : Value) (bs : List B8) (w : World) (h1 : Bys w v1 bs) (h2 : Bys w v2 bs) : Calls Try.prog 11 #[v1, v2] w fun e w' => e = .returned (.bool true) ∧ ∃ n, w' = w.drewN n := by
  refine (equal_calls v1 v2 bs bs w h1 h2).mono ?_
  rintro e w' ⟨rfl, h⟩
  exact ⟨ret_bool (by simp), h⟩
theorem bys_nil (W : World) : Bys W (.slice none 0 0) [] := ⟨none, 0, rfl, Nat.le_refl _, by simp [maxLen], fun _ => rfl, fun h => by simp at h⟩
theorem seal_nil (W0 W : World) (hB : Below W0.heap.size W0 W) : Calls Try.prog 14 #[.slice none 0 0] W fun e w' => ∃ v', e = .returned v' ∧ Bys w' v' [0#8, 0#8, 0#8, 0#8] ∧ Below W.heap.size W w' ∧ Below W0.heap.size W0 w' := by
  refine (seal_calls _ [] W (bys_nil W) (by simp)).mono ?_
  rintro e w' ⟨v', rfl, h1, h2⟩
  rw [seal0] at h1
  exact ⟨v', rfl, h1.bys, h2, below_tr hB h2⟩
theorem tail_1234 (W0 W : World) (hB : Below W0.heap.size W0 W) : Calls Try.prog 10 #[.int .u32 0, .int .u32 (nb (moreW 0#32 [1#8, 2#8, 3#8, 4#8]))] W fun e w' => e = .returned (.agg #[.int .u8 1, .int .u8 2, .int .u8 3, .int .u8 4]) ∧ Below W0.heap.size W0 w' := by
  refine (tail_calls 0#32 _ W).mono ?_
  rintro e w' ⟨rfl, hb⟩
  exact ⟨by rw [tail4], below_tr hB hb⟩
end Go.Proofs.Ytekbjgnlaompbaa
