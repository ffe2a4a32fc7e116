/- A law's number, brought within a bound. -/
import Derived.Test.YtekbjgnlaompbaaCs
import Derived.Test.YtekbjgnlaompbaaMc
import Derived.Laws.Bits64
namespace Go.Proofs.Ytekbjgnlaompbaa
open Go.RowKit
set_option linter.unusedSimpArgs false
/-- The layer does something. -/
def WakesOk : Prop := ∀ w : World, Calls Try.prog 9 #[] w fun e w' => e = .returned (.bool true) ∧ Below w.heap.size w w'
/-- a number within a bound -/
def within (b : Int) (n : Nat) : Nat := (b % 18446744073709551616).toNat % n
theorem within_lt (b : Int) (n : Nat) (h : 0 < n) : within b n < n := Nat.mod_lt _ h
theorem cvu (b : Int) (w : World) : (convert 3 41 (.int .i64 b)).run Try.prog w = .ok (.int .u64 ((b % 18446744073709551616).toNat : Nat)) w := by
  simp [convert, run_underlying Try.underlying3, run_underlying Try.underlying41, Conv.intToInt]
  rw [IntKind.wrap_u64]
  omega
theorem cvu_nat (n : Nat) (h : n < 9223372036854775808) (w : World) : (convert 3 41 (.int .i64 (n : Int))).run Try.prog w = .ok (.int .u64 (n : Int)) w := by
  rw [cvu]
  congr 2
  omega
theorem remu (b : Int) (n : Nat) (h : 0 < n) (w : World) : (binOp .rem 41 (.int .u64 ((b % 18446744073709551616).toNat : Nat)) (.int .u64 (n : Int))).run Try.prog w = .ok (.int .u64 (within b n : Nat)) w := by
  have h1 : ((n : Int) == 0) = false := by simp; omega
  generalize hq : (b % 18446744073709551616).toNat = q
  have hn0 : n ≠ 0 := by omega
  simp [binOp, run_underlying Try.underlying41, Op.intDiv, h1, hn0, IntKind.wrap_u64, within, hq]
  rw [Int.tmod_eq_emod_of_nonneg (by omega)]
theorem cvi_nat (n : Nat) (h : n < 9223372036854775808) (w : World) : (convert 41 3 (.int .u64 (n : Int))).run Try.prog w = .ok (.int .i64 (n : Int)) w := by
  simp [convert, run_underlying Try.underlying3, run_underlying Try.underlying41, Conv.intToInt]
  rw [IntKind.wrap_i64]
  omega
end Go.Proofs.Ytekbjgnlaompbaa
