/- octet: numbers as bytes: walks. -/
import Derived.Test.YtnhmhnejglpijaaQa
import Derived.Deep.RegionHeld3
namespace Go.Proofs.Ytnhmhnejglpijaa
open Go.RowKit
set_option maxRecDepth 100000
set_option linter.unusedSimpArgs false
set_option linter.unusedVariables false
/-! ### Plain -/
def byteN (N i : Nat) : B8 := BitVec.ofNat 8 (N / 2 ^ (8 * i))
/-- a number's bytes, the highest first -/
def layW (width N : Nat) : List B8 := (List.range width).map fun j => byteN N (width - 1 - j)
theorem layW_length (width N : Nat) : (layW width N).length = width := by simp [layW]
def numB (bs : List B8) : Nat := bs.foldl (fun n b => n * 256 + b.toNat) 0
theorem numB_snoc (bs : List B8) (b : B8) : numB (bs ++ [b]) = numB bs * 256 + b.toNat := by simp [numB, List.foldl_append]
theorem take_byte (bs : List B8) (k : Nat) (hk : k < bs.length) : bs.take (k + 1) = bs.take k ++ [byteAt bs k] := by
  rw [List.take_add_one]
  simp [byteAt, List.getD_eq_getElem?_getD, hk]
theorem numB_lt (bs : List B8) : numB bs < 256 ^ bs.length := by
  have key : ∀ l : List B8, numB l.reverse < 256 ^ l.length := by
    intro l
    induction l with
    | nil => simp [numB]
    | cons b l ih =>
      rw [List.reverse_cons, numB_snoc, List.length_cons, Nat.pow_succ]
      have := b.isLt
      omega
  have := key bs.reverse
  rwa [List.reverse_reverse, List.length_reverse] at this
theorem numB_take_lt (bs : List B8) (k : Nat) (hk : k ≤ 7) : numB (bs.take k) < 72057594037927936 := by
  have h := numB_lt (bs.take k)
  have h2 : (bs.take k).length ≤ 7 := by rw [List.length_take]; omega
  have h3 : 256 ^ (bs.take k).length ≤ 256 ^ 7 := Nat.pow_le_pow_right (by decide) h2
  have h4 : (256 : Nat) ^ 7 = 72057594037927936 := by decide
  omega
theorem or_byte (n : Nat) (b : B8) (hn : n < 72057594037927936) : bits .or .u64 ((n : Int) * 256) (bn b) = ((n * 256 + b.toNat : Nat) : Int) := by
  have hb := b.isLt
  have e1 : ((n : Int) * 256) = ((n * 256 : Nat) : Int) := by omega
  rw [e1]
  unfold bn
  show IntKind.u64.wrap (((BitVec.ofInt 64 ((n * 256 : Nat) : Int) ||| BitVec.ofInt 64 ((b.toNat : Nat) : Int) : BitVec 64).toNat : Nat) : Int) = _
  rw [BitVec.ofInt_natCast, BitVec.ofInt_natCast]
  have e2 : (BitVec.ofNat 64 (n * 256)).toNat = n * 256 := by rw [BitVec.toNat_ofNat]; omega
  have e3 : (BitVec.ofNat 64 b.toNat).toNat = b.toNat := by rw [BitVec.toNat_ofNat]; omega
  rw [BitVec.toNat_or, e2, e3, show n * 256 = n <<< 8 from by rw [Nat.shiftLeft_eq], ← Nat.shiftLeft_add_eq_or_of_lt (by omega), Nat.shiftLeft_eq]
  rw [IntKind.wrap_u64]
  omega
/-! ### Walks -/
theorem is_width (width : Nat) (h1 : 1 ≤ width) (h8 : width ≤ 8) (w : World) : Calls Try.prog 131 #[.int .i64 width] w fun e w' => e = .returned (.bool true) ∧ w = w' := by
  have a1 : (1 : Int) ≤ (width : Int) := by omega
  have a2 : (width : Int) ≤ 8 := by omega
  have b1 : decide ((width : Int) ≥ 1) = true := decide_eq_true a1
  have b2 : decide ((width : Int) ≤ 8) = true := decide_eq_true a2
  go_enter Try.func131, Try.ntmps131
  go_wp2
  go_ret
  exact ⟨rfl, rfl⟩
set_option maxHeartbeats 1000000 in
theorem number_calls (v : Value) (bs : List B8) (w : World) (hb : Bys w v bs) (hl : bs.length ≤ 8) :
    Calls Try.prog 132 #[v] w fun e w' => e = .returned (.int .u64 (numB bs)) ∧ w = w' := by
  obtain ⟨A, cap, rfl, h1, h2, _, h4⟩ := hb
  have HC := Lib.hid h4
  clear h4
  go_enter Try.func132, Try.ntmps132
  go_wp2
  go_loop [3, 8] (fun s3 s8 => ∃ k : Nat, k ≤ bs.length ∧ s8 = .int .i64 k ∧ s3 = .int .u64 (numB (bs.take k))) (fun _ i => bs.length - (intOf i).toNat)
  case atStart => exact ⟨0, Nat.zero_le _, rfl, rfl⟩
  case round =>
    obtain ⟨k, hk, rfl, rfl⟩ := hrel
    by_cases hlt : k < bs.length
    · have hd : decide (k < bs.length) = true := by simpa using hlt
      obtain ⟨b, off, rfl, hcell⟩ := HC.out (by omega)
      have k1 := hcell k hlt
      have i0 : (0 : Int) ≤ (k : Int) := by omega
      have i1 : (k : Int) < (bs.length : Int) := by omega
      have hn := numB_take_lt bs k (by omega)
      have hs : numB (bs.take (k + 1)) = numB (bs.take k) * 256 + (byteAt bs k).toNat := by rw [take_byte bs k hlt, numB_snoc]
      have hor := or_byte (numB (bs.take k)) (byteAt bs k) hn
      rw [← hs] at hor
      have hbr := bn_range (byteAt bs k)
      have hcv : IntKind.u64.wrap (bn (byteAt bs k)) = bn (byteAt bs k) := by rw [IntKind.wrap_u64]; omega
      have hsh : IntKind.u64.wrap ((numB (bs.take k) : Int) * 256) = (numB (bs.take k) : Int) * 256 := by rw [IntKind.wrap_u64]; omega
      clear hcell hs
      generalize numB (bs.take k) = n at *
      go_wp2
      go_round
      case rel => exact ⟨k + 1, by omega, by go_num, rfl⟩
      case measure => simp [intOf]; omega
    · have hd : decide (k < bs.length) = false := by simpa using hlt
      have hk : k = bs.length := by omega
      have ht : bs.take k = bs := by rw [hk, List.take_length]
      rw [ht]
      clear hk ht
      go_wp2
      go_ret
      exact ⟨rfl, rfl⟩
end Go.Proofs.Ytnhmhnejglpijaa
