/- Four bytes of a word; the tail. -/
import Derived.Test.YtekbjgnlaompbaaCh
namespace Go.Proofs.Ytekbjgnlaompbaa
open Go.RowKit
def byt0 (x : W32) : B8 := x.setWidth 8
def byt1 (x : W32) : B8 := (x >>> 8).setWidth 8
def byt2 (x : W32) : B8 := (x >>> 16).setWidth 8
def byt3 (x : W32) : B8 := (x >>> 24).setWidth 8
def fourB (x : W32) : List B8 := [byt0 x, byt1 x, byt2 x, byt3 x]
def fourV (x : W32) : Value := .agg #[.int .u8 (bn (byt0 x)), .int .u8 (bn (byt1 x)), .int .u8 (bn (byt2 x)), .int .u8 (bn (byt3 x))]
theorem nb_mod (x : W32) : nb x % (256 : Int) = bn (x.setWidth 8) := by unfold nb bn; rw [BitVec.toNat_setWidth]; omega
theorem shr8_nb (x : W32) : nb x / (256 : Int) = nb (x >>> 8) := shr_nb x 8 256 rfl
theorem shr16_nb (x : W32) : nb x / (65536 : Int) = nb (x >>> 16) := shr_nb x 16 65536 rfl
theorem shr24_nb (x : W32) : nb x / (16777216 : Int) = nb (x >>> 24) := shr_nb x 24 16777216 rfl
theorem shr31_nb (x : W32) : nb x / (2147483648 : Int) = nb (x >>> 31) := shr_nb x 31 2147483648 rfl
section
attribute [local go_sem] nb_mod shr8_nb shr16_nb shr24_nb
theorem four_calls (x : W32) (w : World) : Calls Try.prog 26 #[.int .u32 (nb x)] w fun e w' => e = .returned (fourV x) ∧ Below w.heap.size w w' := by
  have h0 := (nb_range x).1
  go_enter Try.func26, Try.ntmps26
  go_wp2
  exact bodyPost_ret (v := fourV x) (by simp [results, Try.results26, go_sem, fourV, byt0, byt1, byt2, byt3]) rfl ⟨rfl, (Below.refl _ w).alloc (Nat.le_refl _) _⟩
end
/-- four fresh bytes, behind what keeps them -/
theorem fresh_four {w w2 : World} (hb : Below (w.alloc (.cells #[.int .u8 0, .int .u8 0, .int .u8 0, .int .u8 0] 26)).heap.size (w.alloc (.cells #[.int .u8 0, .int .u8 0, .int .u8 0, .int .u8 0] 26)) w2) :
    w2.cell? ⟨w.heap.size, 0, none⟩ = some (.int .u8 0) ∧ w2.cell? ⟨w.heap.size, 1, none⟩ = some (.int .u8 0) ∧ w2.cell? ⟨w.heap.size, 2, none⟩ = some (.int .u8 0) ∧ w2.cell? ⟨w.heap.size, 3, none⟩ = some (.int .u8 0) ∧ ∀ k, w2.frozen? ⟨w.heap.size, k, none⟩ = false := by
  have h : w2.heap[w.heap.size]? = some (.cells #[.int .u8 0, .int .u8 0, .int .u8 0, .int .u8 0] 26) := (hb.block _ (by simp)).trans (new_here w _)
  exact ⟨cell_of_heap h, cell_of_heap h, cell_of_heap h, cell_of_heap h, fun k => free_of_heap h⟩
def unfed (r : W32) : W32 := if r >>> 31 = 1#32 then ((r ^^^ poly) <<< 1) ||| 1#32 else r <<< 1
def unfedN : Nat → W32 → W32
  | 0, r => r
  | n + 1, r => unfed (unfedN n r)
def tailW (sum want : W32) : W32 := unfedN 32 (~~~want) ^^^ ~~~sum
theorem shl1_nb (x : W32) : nb x * (2 : Int) % (4294967296 : Int) = nb (x <<< 1) := by
  unfold nb
  rw [BitVec.toNat_shiftLeft, Nat.shiftLeft_eq]
  omega
theorem or_1 (x : W32) : bits .or .u32 (nb x) (1 : Int) = nb (x ||| 1#32) := bits_or x 1#32
section
attribute [local go_sem] not_nb u32_signed shr31_nb nb_eq_one xor_poly shl1_nb or_1 bits_xor
set_option maxRecDepth 100000 in
theorem tail_calls (sum want : W32) (w : World) : Calls Try.prog 10 #[.int .u32 (nb sum), .int .u32 (nb want)] w fun e w' => e = .returned (fourV (tailW sum want)) ∧ Below w.heap.size w w' := by
  have h0 := (nb_range sum).1
  go_enter Try.func10, Try.ntmps10
  go_wp2
  go_loop [8, 5] (fun i r => ∃ k : Nat, k ≤ 32 ∧ i = .int .i64 k ∧ r = .int .u32 (nb (unfedN k (~~~want)))) (fun i _ => 32 - (intOf i).toNat)
  case atStart => exact ⟨0, by omega, rfl, rfl⟩
  case round =>
    obtain ⟨k, hk, rfl, rfl⟩ := hrel
    by_cases hlt : k < 32
    · have hd : decide ((k : Int) < 32) = true := by simp; omega
      generalize hr : unfedN k (~~~want) = r
      have hr0 := (nb_range r).1
      have hr1 := (nb_range (r ^^^ poly)).1
      have HR := Lib.hid hr
      clear hr
      by_cases hb : r >>> 31 = 1#32
      · have hu : unfed r = ((r ^^^ poly) <<< 1) ||| 1#32 := by simp [unfed, hb]
        have hb1 : decide (r >>> 31 = 1#32) = true := decide_eq_true hb
        have HU := Lib.hid hu
        clear hu hb
        go_wp2
        go_round
        case rel => exact ⟨k + 1, by omega, by go_num, by rw [unfedN, HR.out, HU.out]⟩
        case measure => simp [intOf]; omega
      · have hu : unfed r = r <<< 1 := by simp [unfed, hb]
        have hb1 : decide (r >>> 31 = 1#32) = false := decide_eq_false hb
        have HU := Lib.hid hu
        clear hu hb
        go_wp2
        go_round
        case rel => exact ⟨k + 1, by omega, by go_num, by rw [unfedN, HR.out, HU.out, ← shl1_nb]⟩
        case measure => simp [intOf]; omega
    · have hd : decide ((k : Int) < 32) = false := by simp; omega
      have hk2 : nb (unfedN k (~~~want)) = nb (unfedN 32 (~~~want)) := by rw [show k = 32 by omega]
      rw [hk2]
      clear hk2
      go_wp2_with (go_at_call 26; refine (four_calls _ _).mono ?_; rintro e w2 ⟨rfl, hb⟩; have hz := fresh_four hb; obtain ⟨z0, z1, z2, z3, zf⟩ := hz; have HB := Lib.hid hb; clear hb; simp only [fourV])
      exact bodyPost_ret (v := fourV (tailW sum want)) (by simp [results, Try.results10, go_sem, fourV, tailW, z0, z1, z2, z3]) rfl ⟨rfl,
        ((((((Below.refl _ w).alloc (Nat.le_refl _) _).trans (HB.out.mono (by simp))).setCell (p := ⟨w.heap.size, 0, none⟩) (Nat.le_refl _) _).setCell (p := ⟨w.heap.size, 1, none⟩) (Nat.le_refl _) _).setCell (p := ⟨w.heap.size, 2, none⟩) (Nat.le_refl _) _).setCell (p := ⟨w.heap.size, 3, none⟩) (Nat.le_refl _) _⟩
end
end Go.Proofs.Ytekbjgnlaompbaa
