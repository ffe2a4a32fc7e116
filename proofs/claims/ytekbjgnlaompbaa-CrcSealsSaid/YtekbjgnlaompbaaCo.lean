/- The references: words. -/
import Derived.Test.YtekbjgnlaompbaaCn
namespace Go.Proofs.Ytekbjgnlaompbaa
open Go.RowKit
theorem sub_nb (x : W32) : (4294967295 : Int) - nb x = nb (~~~x) := by
  unfold nb
  rw [BitVec.toNat_not]
  have := x.isLt
  omega
theorem nb_mod32 (x : W32) : nb x % (4294967296 : Int) = nb x := by have := nb_range x; omega
theorem ret_int {k : IntKind} {a b : Int} (h : a = b) : Ending.returned (.int k a) = .returned (.int k b) := by rw [h]
section
attribute [local go_sem] sub_nb nb_mod32
theorem turned_calls (x : W32) (w : World) : Calls Try.prog 27 #[.int .u32 (nb x)] w fun e w' => e = .returned (.int .u32 (nb (~~~x))) ∧ w = w' := by
  have h0 := nb_range x
  go_enter Try.func27, Try.ntmps27
  go_wp2
  go_ret
  exact ⟨ret_int (nb_mod32 _), rfl⟩
end
theorem xor_step (a b k : Nat) (o p : Nat) (ho : o = (a ^^^ b) % 2 ^ k) (hp : p = 2 ^ k) (hne : (a >>> k) % 2 ≠ (b >>> k) % 2) : o + p = (a ^^^ b) % 2 ^ (k + 1) := by
  rw [Nat.mod_pow_succ, ← ho, ← hp]
  have h1 : (a ^^^ b) / p % 2 = 1 := by
    rw [hp, ← Nat.shiftRight_eq_div_pow, Nat.shiftRight_xor_distrib, Nat.xor_mod_two_eq_one]
    omega
  rw [h1]
  omega
theorem xor_stay (a b k : Nat) (o : Nat) (ho : o = (a ^^^ b) % 2 ^ k) (hne : (a >>> k) % 2 = (b >>> k) % 2) : o = (a ^^^ b) % 2 ^ (k + 1) := by
  rw [Nat.mod_pow_succ, ← ho]
  have h1 : (a ^^^ b) / 2 ^ k % 2 = 0 := by
    rw [← Nat.shiftRight_eq_div_pow, Nat.shiftRight_xor_distrib]
    have := Nat.xor_mod_two_eq_one (a := a >>> k) (b := b >>> k)
    omega
  rw [h1]
  omega
theorem nb_shr_succ (x : W32) (k : Nat) : nb (x >>> k) / (2 : Int) = nb (x >>> (k + 1)) := by
  rw [shr1_nb, BitVec.shiftRight_add]
theorem nb_shr_mod (x : W32) (k : Nat) : nb (x >>> k) % (2 : Int) = (((x.toNat >>> k) % 2 : Nat) : Int) := by
  unfold nb
  rw [BitVec.toNat_ushiftRight]
  omega
set_option maxRecDepth 100000 in
theorem xor_calls (x y : W32) (w : World) : Calls Try.prog 30 #[.int .u32 (nb x), .int .u32 (nb y)] w fun e w' => e = .returned (.int .u32 (nb (x ^^^ y))) ∧ w = w' := by
  go_enter Try.func30, Try.ntmps30
  go_wp2
  go_loop [7, 0, 1, 5, 6] (fun i a b o p => ∃ k : Nat, k ≤ 32 ∧ i = .int .i64 k ∧ a = .int .u32 (nb (x >>> k)) ∧ b = .int .u32 (nb (y >>> k)) ∧ o = .int .u32 (((x.toNat ^^^ y.toNat) % 2 ^ k : Nat) : Int) ∧ p = .int .u32 ((2 ^ k % 2 ^ 32 : Nat) : Int))
    (fun i _ _ _ _ => 32 - (intOf i).toNat)
  case atStart => exact ⟨0, by omega, rfl, by simp, by simp, by simp [Nat.mod_one], by simp⟩
  case round =>
    obtain ⟨k, hk, rfl, rfl, rfl, rfl, rfl⟩ := hrel
    by_cases hlt : k < 32
    · have hd : decide ((k : Int) < 32) = true := by simp; omega
      have hp32 : 2 ^ k ≤ 2 ^ 31 := Nat.pow_le_pow_right (by omega) (by omega)
      have hpm : 2 ^ k % 2 ^ 32 = 2 ^ k := Nat.mod_eq_of_lt (by omega)
      rw [hpm]
      obtain ⟨p, hp⟩ : ∃ p, p = 2 ^ k := ⟨_, rfl⟩
      obtain ⟨o, ho⟩ : ∃ o, o = (x.toNat ^^^ y.toNat) % 2 ^ k := ⟨_, rfl⟩
      have hop : o < p := by rw [ho, hp]; exact Nat.mod_lt _ (Nat.two_pow_pos k)
      rw [← ho, ← hp]
      rw [← hp] at hp32
      have hx := nb_range (x >>> k)
      have hy := nb_range (y >>> k)
      have HP := Lib.hid hp
      have HO := Lib.hid ho
      clear hp ho hpm
      have hnext : (2 * (p : Int)) % 4294967296 = ((2 ^ (k + 1) % 2 ^ 32 : Nat) : Int) := by
        rw [Nat.pow_succ, ← HP.out]; omega
      have HN := Lib.hid hnext
      clear hnext
      by_cases he : (x.toNat >>> k) % 2 = (y.toNat >>> k) % 2
      · have ht : (nb (x >>> k) % (2 : Int) != nb (y >>> k) % (2 : Int)) = false := by rw [nb_shr_mod, nb_shr_mod]; simp [he]
        have hs := xor_stay _ _ k o HO.out he
        have HS := Lib.hid hs
        clear hs he
        go_wp2
        go_round
        case rel => exact ⟨k + 1, by omega, by go_num, by rw [nb_shr_succ], by rw [nb_shr_succ], by rw [HS.out], by rw [← HN.out]⟩
        case measure => simp [intOf]; omega
      · have ht : (nb (x >>> k) % (2 : Int) != nb (y >>> k) % (2 : Int)) = true := by rw [nb_shr_mod, nb_shr_mod, bne_iff_ne]; omega
        have hs := xor_step _ _ k o p HO.out HP.out he
        have HS := Lib.hid hs
        clear hs he
        go_wp2
        go_round
        case rel => exact ⟨k + 1, by omega, by go_num, by rw [nb_shr_succ], by rw [nb_shr_succ], by rw [← HS.out]; go_num, by rw [← HN.out]⟩
        case measure => simp [intOf]; omega
    · have hd : decide ((k : Int) < 32) = false := by simp; omega
      have hr : (((x.toNat ^^^ y.toNat) % 2 ^ k : Nat) : Int) = nb (x ^^^ y) := by
        rw [show k = 32 by omega]
        unfold nb
        rw [BitVec.toNat_xor, Nat.mod_eq_of_lt]
        exact Nat.xor_lt_two_pow x.isLt y.isLt
      rw [hr]
      clear hr
      go_wp2
      go_ret
      exact ⟨rfl, rfl⟩
end Go.Proofs.Ytekbjgnlaompbaa
