/- Plain laws of registers: bit by bit, by four bits, by bytes. -/
import Derived.Test.YtekbjgnlaompbaaCs
namespace Go.Proofs.Ytekbjgnlaompbaa
def F (x : W32) : W32 := fed x 0#32
theorem lsb_or (x : W32) : x &&& 1#32 = if x.getLsbD 0 then 1#32 else 0#32 := by
  apply BitVec.eq_of_getLsbD_eq
  intro i hi
  rw [BitVec.getLsbD_and]
  by_cases h0 : i = 0
  · subst h0
    have h1 : (1#32).getLsbD 0 = true := by decide
    rw [h1, Bool.and_true]
    cases x.getLsbD 0 <;> decide
  · have h1 : (1#32).getLsbD i = false := by
      rw [BitVec.getLsbD_one]
      simp [h0]
    rw [h1, Bool.and_false]
    by_cases h : x.getLsbD 0 = true
    · rw [if_pos h, h1]
    · rw [if_neg h]; simp
theorem F_eq (x : W32) : F x = (x >>> 1) ^^^ (if x.getLsbD 0 then poly else 0#32) := by
  unfold F fed
  rw [BitVec.xor_zero, lsb_or]
  cases x.getLsbD 0
  · rw [if_neg (by decide), if_neg (by decide), BitVec.xor_zero]
  · rw [if_pos (by decide), if_pos rfl]
theorem F_xor (x y : W32) : F (x ^^^ y) = F x ^^^ F y := by
  rw [F_eq, F_eq, F_eq, BitVec.ushiftRight_xor_distrib, BitVec.getLsbD_xor]
  generalize x >>> 1 = a
  generalize y >>> 1 = b
  cases x.getLsbD 0 <;> cases y.getLsbD 0 <;> simp
  · rw [BitVec.xor_assoc]
  · rw [BitVec.xor_assoc, BitVec.xor_comm b poly, ← BitVec.xor_assoc]
  · rw [BitVec.xor_assoc a poly, ← BitVec.xor_assoc poly, BitVec.xor_comm poly b, BitVec.xor_assoc b, BitVec.xor_self, BitVec.xor_zero]
theorem fed_F (r b : W32) (hb : b = 0#32 ∨ b = 1#32) : fed r b = F (r ^^^ b) := by
  unfold F fed
  rw [BitVec.xor_zero, BitVec.ushiftRight_xor_distrib]
  rcases hb with rfl | rfl <;> simp
theorem fedN_succ (n : Nat) (x : W32) : fedN (n + 1) x = F (fedN n x) := rfl
theorem fedN_xor (n : Nat) (x y : W32) : fedN n (x ^^^ y) = fedN n x ^^^ fedN n y := by
  induction n with
  | zero => rfl
  | succ n ih => rw [fedN_succ, fedN_succ, fedN_succ, ih, F_xor]
theorem fedN_add (m n : Nat) (x : W32) : fedN (m + n) x = fedN m (fedN n x) := by
  induction m with
  | zero => simp [fedN]
  | succ m ih => rw [Nat.succ_add, fedN_succ, fedN_succ, ih]
theorem F_even (x : W32) (h : x.getLsbD 0 = false) : F x = x >>> 1 := by rw [F_eq, h]; simp
theorem fedN_even (x : W32) : ∀ n, (∀ i, i < n → x.getLsbD i = false) → fedN n x = x >>> n
  | 0, _ => by simp [fedN]
  | n + 1, h => by
    rw [fedN_succ, fedN_even x n (fun i hi => h i (by omega)), F_even, BitVec.shiftRight_add]
    rw [BitVec.getLsbD_ushiftRight]
    exact h n (by omega)
theorem nibW_eq (y : W32) : nibW y = fedN 4 y := by
  unfold nibW nib
  rw [BitVec.ofNat_toNat, BitVec.setWidth_eq]
theorem half_eq (x : W32) : half x = fedN 4 x := by
  have hx : x = (x &&& 0xFFFFFFF0#32) ^^^ (x &&& 15#32) := by
    apply BitVec.eq_of_getLsbD_eq
    intro i hi
    rw [BitVec.getLsbD_xor, BitVec.getLsbD_and, BitVec.getLsbD_and]
    have : ∀ i, i < 32 → ((0xFFFFFFF0#32).getLsbD i ^^ (15#32).getLsbD i) = true := by decide
    have h := this i hi
    revert h
    generalize (0xFFFFFFF0#32).getLsbD i = p
    generalize (15#32).getLsbD i = q
    generalize x.getLsbD i = r
    revert p q r
    decide
  have h4 : fedN 4 (x &&& 0xFFFFFFF0#32) = x >>> 4 := by
    rw [fedN_even]
    · apply BitVec.eq_of_getLsbD_eq
      intro i hi
      rw [BitVec.getLsbD_ushiftRight, BitVec.getLsbD_ushiftRight, BitVec.getLsbD_and]
      have : ∀ i, i < 32 → (0xFFFFFFF0#32).getLsbD (4 + i) = decide (4 + i < 32) := by decide
      rw [this i hi]
      by_cases h : 4 + i < 32
      · simp [h]
      · rw [BitVec.getLsbD_of_ge x (4 + i) (by omega)]; rfl
    · intro i hi
      rw [BitVec.getLsbD_and]
      have : ∀ i, i < 4 → (0xFFFFFFF0#32).getLsbD i = false := by decide
      rw [this i hi, Bool.and_false]
  have e : fedN 4 x = fedN 4 (x &&& 0xFFFFFFF0#32) ^^^ fedN 4 (x &&& 15#32) := by rw [← fedN_xor, ← hx]
  rw [e, h4, half, nibW_eq]
theorem feedByte_eq (x : W32) (b : B8) : feedByte x b = fedN 8 (x ^^^ b.setWidth 32) := by
  rw [feedByte, half_eq, half_eq, ← fedN_add]
theorem fedBits_byte (x : W32) (bs : List B8) (i k : Nat) (hk : k ≤ 8) :
    fedBits x bs (8 * i + k) = fedN k (fedBits x bs (8 * i) ^^^ (byteAt bs i).setWidth 32) ^^^ ((byteAt bs i).setWidth 32 >>> k) := by
  generalize hb : (byteAt bs i).setWidth 32 = b
  induction k with
  | zero => simp [fedN, BitVec.xor_assoc]
  | succ k ih =>
    have hbit : bitAt bs (8 * i + k) = (b >>> k) &&& 1#32 := by
      unfold bitAt
      rw [show (8 * i + k) / 8 = i by omega, show (8 * i + k) % 8 = k by omega, hb]
    rw [← Nat.add_assoc, fedBits, fed_F _ _ (bitAt_or ..), ih (by omega), hbit, BitVec.xor_assoc, F_xor, fedN_succ]
    congr 1
    rw [F_even]
    · rw [BitVec.ushiftRight_xor_distrib, BitVec.shiftRight_add]
      have : (b >>> k &&& 1#32) >>> 1 = 0#32 := by
        rw [lsb_or]
        cases (b >>> k).getLsbD 0 <;> decide
      rw [this, BitVec.xor_zero]
    · rw [BitVec.getLsbD_xor, BitVec.getLsbD_and]
      simp
theorem byte_shr8 (b : B8) : b.setWidth 32 >>> 8 = 0#32 := by
  apply BitVec.eq_of_toNat_eq
  rw [BitVec.toNat_ushiftRight, BitVec.toNat_setWidth, Nat.shiftRight_eq_div_pow]
  have := b.isLt
  simp
  omega
theorem fedBits_next (x : W32) (bs : List B8) (i : Nat) : fedBits x bs (8 * (i + 1)) = feedByte (fedBits x bs (8 * i)) (byteAt bs i) := by
  rw [Nat.mul_add, Nat.mul_one, fedBits_byte x bs i 8 (Nat.le_refl _), byte_shr8, BitVec.xor_zero, feedByte_eq]
theorem fedBits_eq (x : W32) (bs : List B8) : ∀ i, i ≤ bs.length → fedBits x bs (8 * i) = feedAll x (bs.take i)
  | 0, _ => by simp [fedBits, feedAll]
  | i + 1, h => by rw [fedBits_next, fedBits_eq x bs i (by omega), take_snoc8 bs i (by omega), feedAll_snoc]
theorem moreR_eq (sum : W32) (bs : List B8) : moreR sum bs = moreW sum bs := by
  unfold moreR moreW
  rw [fedBits_eq _ _ _ (Nat.le_refl _), List.take_length]
theorem sealR_eq (bs : List B8) : sealR bs = sealW bs := by rw [sealR, moreR_eq]; rfl
theorem openedR_eq (bs : List B8) : openedR bs = openedW bs := by rw [openedR, moreR_eq]; rfl
theorem tabByte_eq (j : Nat) : tabByte j = fedBits 0#32 [BitVec.ofNat 8 j] 8 := by
  have := fedBits_eq 0#32 [BitVec.ofNat 8 j] 1 (by simp)
  rw [show 8 * 1 = 8 from rfl] at this
  rw [this]
  rfl
end Go.Proofs.Ytekbjgnlaompbaa
