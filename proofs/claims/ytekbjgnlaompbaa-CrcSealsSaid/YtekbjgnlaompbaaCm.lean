/- Spoilt bytes. -/
import Derived.Test.YtekbjgnlaompbaaCl
namespace Go.Proofs.Ytekbjgnlaompbaa
open Go.RowKit
theorem shrk_nb (x : W32) (k : Nat) : nb x / (2 : Int) ^ k = nb (x >>> k) := shr_nb x k _ rfl
/-- Is a bit turned? -/
def isB (m : W32) (bit len k : Nat) : Bool := decide ((m >>> k) &&& 1#32 = 1#32) && decide (bit + k < 8 * len)
section
attribute [local go_sem] and_1 nb_eq_one shrk_nb
theorem is_calls (k len bit : Nat) (m : W32) (hk : k < 32) (hb : bit < 8 * len) (hl : len ≤ 1099511627776) (pm pb ps : Addr) (A : Option Addr) (cap : Nat) (w : World)
    (hm : w.cell? pm = some (.int .u32 (nb m))) (hbit : w.cell? pb = some (.int .i64 bit)) (hs : w.cell? ps = some (.slice A len cap)) :
    Calls Try.prog 32 #[.int .i64 k, .pointer (some pm), .pointer (some pb), .pointer (some ps)] w fun e w' => e = .returned (.bool (isB m bit len k)) ∧ w = w' := by
  have h0 := nb_range m
  by_cases h1 : (m >>> k) &&& 1#32 = 1#32
  · have h1b : decide ((m >>> k) &&& 1#32 = 1#32) = true := decide_eq_true h1
    by_cases h2 : bit + k < 8 * len
    · have hr : isB m bit len k = true := by simp only [isB, h1b]; simpa using h2
      have h3 : (bit : Int) + (k : Int) < 8 * (len : Int) := by omega
      have HR := Lib.hid hr
      clear hr h1
      go_enter Try.func32, Try.ntmps32
      go_wp2
      go_ret
      exact ⟨ret_bool HR.out.symm, rfl⟩
    · have hr : isB m bit len k = false := by simp only [isB, h1b]; simpa using h2
      have h3 : decide ((bit : Int) + (k : Int) < 8 * (len : Int)) = false := by rw [decide_eq_false_iff_not]; omega
      have HR := Lib.hid hr
      clear hr h1
      go_enter Try.func32, Try.ntmps32
      go_wp2
      go_ret
      exact ⟨ret_bool HR.out.symm, rfl⟩
  · have h1b : decide ((m >>> k) &&& 1#32 = 1#32) = false := decide_eq_false h1
    have hr : isB m bit len k = false := by simp only [isB, h1b, Bool.false_and]
    have HR := Lib.hid hr
    clear hr h1
    go_enter Try.func32, Try.ntmps32
    go_wp2
    go_ret
    exact ⟨ret_bool HR.out.symm, rfl⟩
end
end Go.Proofs.Ytekbjgnlaompbaa
