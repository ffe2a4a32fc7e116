/- The references: registers and sums. -/
import Derived.Test.YtekbjgnlaompbaaCo
namespace Go.Proofs.Ytekbjgnlaompbaa
open Go.RowKit
theorem nb_mod2 (x : W32) : nb x % (2 : Int) = nb (x &&& 1#32) := by
  unfold nb
  rw [BitVec.toNat_and, show (1#32).toNat = 1 from rfl, Nat.and_one_is_mod]
  omega
theorem xor_and (r b c : W32) : (r ^^^ b) &&& c = (r &&& c) ^^^ (b &&& c) := by
  apply BitVec.eq_of_getLsbD_eq
  intro i _
  simp only [BitVec.getLsbD_and, BitVec.getLsbD_xor]
  cases r.getLsbD i <;> cases b.getLsbD i <;> simp
theorem fed_or (r b : W32) (hb : b = 0#32 ∨ b = 1#32) : (r ^^^ b) &&& 1#32 = 1#32 ↔ r &&& 1#32 ≠ b := by
  have h1 : r &&& 1#32 = 0#32 ∨ r &&& 1#32 = 1#32 := by
    have : (r &&& 1#32).toNat = r.toNat % 2 := by rw [BitVec.toNat_and, show (1#32).toNat = 1 from rfl, Nat.and_one_is_mod]
    rcases Nat.mod_two_eq_zero_or_one r.toNat with h | h
    · exact .inl (BitVec.eq_of_toNat_eq (by rw [this, h]; rfl))
    · exact .inr (BitVec.eq_of_toNat_eq (by rw [this, h]; rfl))
  have h2 : (r ^^^ b) &&& 1#32 = (r &&& 1#32) ^^^ (b &&& 1#32) := xor_and _ _ _
  rw [h2]
  rcases h1 with h1 | h1 <;> rcases hb with rfl | rfl <;> rw [h1] <;> decide
theorem rfeed_calls (r b : W32) (hb : b = 0#32 ∨ b = 1#32) (w : World) : Calls Try.prog 36 #[.int .u32 (nb r), .int .u32 (nb b)] w fun e w' => e = .returned (.int .u32 (nb (fed r b))) ∧ w = w' := by
  have h0 := nb_range r
  have hiff := fed_or r b hb
  by_cases h : (r ^^^ b) &&& 1#32 = 1#32
  · have ht : (nb r % (2 : Int) != nb b) = true := by
      rw [nb_mod2, bne_iff_ne]
      exact fun e => hiff.1 h (nb_inj e)
    have hf : fed r b = (r >>> 1) ^^^ poly := by simp [fed, h]
    have hs := shr1_nb r
    have HF := Lib.hid hf
    clear hf h hiff
    go_enter Try.func36, Try.ntmps36
    go_wp2_with (go_at_call 30; refine (xor_calls (r >>> 1) poly _).mono ?_; rintro e w' ⟨rfl, rfl⟩)
    go_ret
    exact ⟨ret_int (by rw [HF.out]), rfl⟩
  · have ht : (nb r % (2 : Int) != nb b) = false := by
      rw [nb_mod2, bne_eq_false_iff_eq]
      by_cases e : r &&& 1#32 = b
      · rw [e]
      · exact absurd (hiff.2 e) h
    have hf : fed r b = (r >>> 1) := by simp [fed, h]
    have HF := Lib.hid hf
    clear hf h hiff
    go_enter Try.func36, Try.ntmps36
    go_wp2
    go_ret
    exact ⟨ret_int (by rw [HF.out, ← shr1_nb]), rfl⟩
/-- a bit of bytes -/
def bitAt (bs : List B8) (n : Nat) : W32 := ((byteAt bs (n / 8)).setWidth 32 >>> (n % 8)) &&& 1#32
theorem bitAt_or (bs : List B8) (n : Nat) : bitAt bs n = 0#32 ∨ bitAt bs n = 1#32 := by
  unfold bitAt
  generalize (byteAt bs (n / 8)).setWidth 32 >>> (n % 8) = r
  have : (r &&& 1#32).toNat = r.toNat % 2 := by rw [BitVec.toNat_and, show (1#32).toNat = 1 from rfl, Nat.and_one_is_mod]
  rcases Nat.mod_two_eq_zero_or_one r.toNat with h | h
  · exact .inl (BitVec.eq_of_toNat_eq (by rw [this, h]; rfl))
  · exact .inr (BitVec.eq_of_toNat_eq (by rw [this, h]; rfl))
set_option maxRecDepth 100000 in
theorem rbit_calls (v : Value) (bs : List B8) (n : Nat) (w : World) (hb : Bys w v bs) (hl : bs.length ≤ 1099511627776) (hn : n < 8 * bs.length) :
    Calls Try.prog 33 #[v, .int .i64 n] w fun e w' => e = .returned (.int .u32 (nb (bitAt bs n))) ∧ w = w' := by
  obtain ⟨A, cap, rfl, hc1, hc2, hc3, hc4⟩ := hb
  obtain ⟨b, off, rfl, hc⟩ := hc4 (by omega)
  have hx := hc (n / 8) (by omega)
  have hbn := bn_range (byteAt bs (n / 8))
  have i0 : (0 : Int) ≤ ((n / 8 : Nat) : Int) := by omega
  have i1 : ((n / 8 : Nat) : Int) < (bs.length : Int) := by omega
  unfold maxLen at hc2
  clear hc hc3 hc4
  go_enter Try.func33, Try.ntmps33
  go_wp2
  go_loop [14, 5] (fun i x => ∃ k : Nat, k ≤ n % 8 ∧ i = .int .i64 k ∧ x = .int .u32 (nb ((byteAt bs (n / 8)).setWidth 32 >>> k))) (fun i _ => 8 - (intOf i).toNat)
  case atStart => exact ⟨0, by omega, rfl, by rw [bn_nb]; simp⟩
  case round =>
    obtain ⟨k, hk, rfl, rfl⟩ := hrel
    have hy := nb_range ((byteAt bs (n / 8)).setWidth 32 >>> k)
    by_cases hlt : k < n % 8
    · have h2 : (k : Int) < (n : Int) % 8 := by omega
      go_wp2
      go_round
      case rel => exact ⟨k + 1, by omega, by go_num, by rw [nb_shr_succ]⟩
      case measure => simp [intOf]; omega
    · have h2 : ¬ ((k : Int) < (n : Int) % 8) := by omega
      have hr : nb ((byteAt bs (n / 8)).setWidth 32 >>> k) % (2 : Int) = nb (bitAt bs n) := by rw [nb_mod2, bitAt, show k = n % 8 by omega]
      have HR := Lib.hid hr
      clear hr
      go_wp2
      go_ret
      exact ⟨ret_int HR.out, rfl⟩
def fedBits (x : W32) (bs : List B8) : Nat → W32
  | 0 => x
  | n + 1 => fed (fedBits x bs n) (bitAt bs n)
set_option maxRecDepth 100000 in
theorem rfed_calls (x : W32) (v : Value) (bs : List B8) (w : World) (hb : Bys w v bs) (hl : bs.length ≤ 1099511627776) :
    Calls Try.prog 25 #[.int .u32 (nb x), v] w fun e w' => e = .returned (.int .u32 (nb (fedBits x bs (8 * bs.length)))) ∧ w = w' := by
  have hb' := hb
  obtain ⟨A, cap, rfl, hc1, hc2, hc3, hc4⟩ := hb'
  have HB := Lib.hid hb
  unfold maxLen at hc2
  clear hb hc3 hc4
  go_enter Try.func25, Try.ntmps25
  go_wp2
  go_loopw [9, 0, 5] (fun i r _ wr => ∃ k : Nat, k ≤ 8 * bs.length ∧ i = .int .i64 k ∧ r = .int .u32 (nb (fedBits x bs k)) ∧ w = wr) (fun i _ _ _ => 8 * bs.length - (intOf i).toNat)
  case atStart => exact ⟨0, by omega, rfl, rfl, rfl⟩
  case round =>
    obtain ⟨k, hk, rfl, rfl, rfl⟩ := hrel
    by_cases hlt : k < 8 * bs.length
    · have h2 : (k : Int) < 8 * (bs.length : Int) := by omega
      go_wp2_with (first | (go_at_call 33; refine (rbit_calls _ bs k _ HB.out hl hlt).mono ?_; rintro e w' ⟨rfl, rfl⟩) | (go_at_call 36; refine (rfeed_calls _ _ (bitAt_or bs k) _).mono ?_; rintro e w' ⟨rfl, rfl⟩))
      go_roundw
      case rel => exact ⟨k + 1, by omega, by go_num, rfl, trivial⟩
      case measure => simp [intOf]; omega
    · have h2 : ¬ ((k : Int) < 8 * (bs.length : Int)) := by omega
      have hr : nb (fedBits x bs k) = nb (fedBits x bs (8 * bs.length)) := by rw [show k = 8 * bs.length by omega]
      rw [hr]
      clear hr
      go_wp2
      go_ret
      exact ⟨rfl, rfl⟩
def moreR (sum : W32) (bs : List B8) : W32 := ~~~ (fedBits (~~~ sum) bs (8 * bs.length))
theorem rmore_calls (sum : W32) (v : Value) (bs : List B8) (w : World) (hb : Bys w v bs) (hl : bs.length ≤ 1099511627776) :
    Calls Try.prog 23 #[.int .u32 (nb sum), v] w fun e w' => e = .returned (.int .u32 (nb (moreR sum bs))) ∧ w = w' := by
  have hb' := hb
  obtain ⟨A, cap, rfl, hc1, hc2, hc3, hc4⟩ := hb'
  have HB := Lib.hid hb
  clear hb hc3 hc4
  obtain ⟨y, hy⟩ : ∃ y, y = fedBits (~~~ sum) bs (8 * bs.length) := ⟨_, rfl⟩
  have HY := Lib.hid hy
  clear hy
  go_enter Try.func23, Try.ntmps23
  go_wp2_with (first
    | (go_at_call 27; refine (turned_calls sum _).mono ?_; rintro e w' ⟨rfl, rfl⟩)
    | (go_at_call 25; refine (rfed_calls _ _ bs _ HB.out hl).mono ?_; rintro e w' ⟨rfl, rfl⟩; rw [← HY.out])
    | (go_at_call 27; refine (turned_calls y _).mono ?_; rintro e w' ⟨rfl, rfl⟩))
  go_ret
  exact ⟨ret_int (by rw [HY.out]; rfl), rfl⟩
theorem rsum_calls (v : Value) (bs : List B8) (w : World) (hb : Bys w v bs) (hl : bs.length ≤ 1099511627776) :
    Calls Try.prog 21 #[v] w fun e w' => e = .returned (.int .u32 (nb (moreR 0#32 bs))) ∧ w = w' := by
  have hb' := hb
  obtain ⟨A, cap, rfl, hc1, hc2, hc3, hc4⟩ := hb'
  have HB := Lib.hid hb
  clear hb hc3 hc4
  go_enter Try.func21, Try.ntmps21
  go_wp2_with (go_at_call 23; refine (rmore_calls 0#32 _ bs _ HB.out hl).mono ?_; rintro e w' ⟨rfl, rfl⟩)
  go_ret
  exact ⟨rfl, rfl⟩
end Go.Proofs.Ytekbjgnlaompbaa
