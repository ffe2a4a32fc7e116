/- Plain laws of registers: bit by bit, by four bits, by bytes. Plain laws: four bytes behind others; one byte that is another one. Plain laws: what is spoilt within 32 bits in a row is nothing sealed. -/
import Derived.Test.YtnhmhnejglpijaaDc
namespace Go.Proofs.Ytnhmhnejglpijaa
def F (x : W32) : W32 := fed x 0#32
theorem lsb_or (x : W32) : x &&& 1#32 = if x.getLsbD 0 then 1#32 else 0#32 := by
  apply BitVec.eq_of_getLsbD_eq
  intro i hi
  rw [BitVec.getLsbD_and]
  by_cases h0 : i = 0
  · subst h0
    have h1 : (1#32).getLsbD 0 = true := by decide
    rw [h1, Bool.and_true]
    cases x.getLsbD 0 <;> decide
  · have h1 : (1#32).getLsbD i = false := by
      rw [BitVec.getLsbD_one]
      simp [h0]
    rw [h1, Bool.and_false]
    by_cases h : x.getLsbD 0 = true
    · rw [if_pos h, h1]
    · rw [if_neg h]; simp
theorem F_eq (x : W32) : F x = (x >>> 1) ^^^ (if x.getLsbD 0 then poly else 0#32) := by
  unfold F fed
  rw [BitVec.xor_zero, lsb_or]
  cases x.getLsbD 0
  · rw [if_neg (by decide), if_neg (by decide), BitVec.xor_zero]
  · rw [if_pos (by decide), if_pos rfl]
theorem F_xor (x y : W32) : F (x ^^^ y) = F x ^^^ F y := by
  rw [F_eq, F_eq, F_eq, BitVec.ushiftRight_xor_distrib, BitVec.getLsbD_xor]
  generalize x >>> 1 = a
  generalize y >>> 1 = b
  cases x.getLsbD 0 <;> cases y.getLsbD 0 <;> simp
  · rw [BitVec.xor_assoc]
  · rw [BitVec.xor_assoc, BitVec.xor_comm b poly, ← BitVec.xor_assoc]
  · rw [BitVec.xor_assoc a poly, ← BitVec.xor_assoc poly, BitVec.xor_comm poly b, BitVec.xor_assoc b, BitVec.xor_self, BitVec.xor_zero]
theorem fed_F (r b : W32) (hb : b = 0#32 ∨ b = 1#32) : fed r b = F (r ^^^ b) := by
  unfold F fed
  rw [BitVec.xor_zero, BitVec.ushiftRight_xor_distrib]
  rcases hb with rfl | rfl <;> simp
theorem fedN_succ (n : Nat) (x : W32) : fedN (n + 1) x = F (fedN n x) := rfl
theorem fedN_xor (n : Nat) (x y : W32) : fedN n (x ^^^ y) = fedN n x ^^^ fedN n y := by
  induction n with
  | zero => rfl
  | succ n ih => rw [fedN_succ, fedN_succ, fedN_succ, ih, F_xor]
theorem fedN_add (m n : Nat) (x : W32) : fedN (m + n) x = fedN m (fedN n x) := by
  induction m with
  | zero => simp [fedN]
  | succ m ih => rw [Nat.succ_add, fedN_succ, fedN_succ, ih]
theorem F_even (x : W32) (h : x.getLsbD 0 = false) : F x = x >>> 1 := by rw [F_eq, h]; simp
theorem fedN_even (x : W32) : ∀ n, (∀ i, i < n → x.getLsbD i = false) → fedN n x = x >>> n
  | 0, _ => by simp [fedN]
  | n + 1, h => by
    rw [fedN_succ, fedN_even x n (fun i hi => h i (by omega)), F_even, BitVec.shiftRight_add]
    rw [BitVec.getLsbD_ushiftRight]
    exact h n (by omega)
theorem nibW_eq (y : W32) : nibW y = fedN 4 y := by
  unfold nibW nib
  rw [BitVec.ofNat_toNat, BitVec.setWidth_eq]
theorem half_eq (x : W32) : half x = fedN 4 x := by
  have hx : x = (x &&& 0xFFFFFFF0#32) ^^^ (x &&& 15#32) := by
    apply BitVec.eq_of_getLsbD_eq
    intro i hi
    rw [BitVec.getLsbD_xor, BitVec.getLsbD_and, BitVec.getLsbD_and]
    have : ∀ i, i < 32 → ((0xFFFFFFF0#32).getLsbD i ^^ (15#32).getLsbD i) = true := by decide
    have h := this i hi
    revert h
    generalize (0xFFFFFFF0#32).getLsbD i = p
    generalize (15#32).getLsbD i = q
    generalize x.getLsbD i = r
    revert p q r
    decide
  have h4 : fedN 4 (x &&& 0xFFFFFFF0#32) = x >>> 4 := by
    rw [fedN_even]
    · apply BitVec.eq_of_getLsbD_eq
      intro i hi
      rw [BitVec.getLsbD_ushiftRight, BitVec.getLsbD_ushiftRight, BitVec.getLsbD_and]
      have : ∀ i, i < 32 → (0xFFFFFFF0#32).getLsbD (4 + i) = decide (4 + i < 32) := by decide
      rw [this i hi]
      by_cases h : 4 + i < 32
      · simp [h]
      · rw [BitVec.getLsbD_of_ge x (4 + i) (by omega)]; rfl
    · intro i hi
      rw [BitVec.getLsbD_and]
      have : ∀ i, i < 4 → (0xFFFFFFF0#32).getLsbD i = false := by decide
      rw [this i hi, Bool.and_false]
  have e : fedN 4 x = fedN 4 (x &&& 0xFFFFFFF0#32) ^^^ fedN 4 (x &&& 15#32) := by rw [← fedN_xor, ← hx]
  rw [e, h4, half, nibW_eq]
theorem feedByte_eq (x : W32) (b : B8) : feedByte x b = fedN 8 (x ^^^ b.setWidth 32) := by
  rw [feedByte, half_eq, half_eq, ← fedN_add]
theorem fedBits_byte (x : W32) (bs : List B8) (i k : Nat) (hk : k ≤ 8) :
    fedBits x bs (8 * i + k) = fedN k (fedBits x bs (8 * i) ^^^ (byteAt bs i).setWidth 32) ^^^ ((byteAt bs i).setWidth 32 >>> k) := by
  generalize hb : (byteAt bs i).setWidth 32 = b
  induction k with
  | zero => simp [fedN, BitVec.xor_assoc]
  | succ k ih =>
    have hbit : bitAt bs (8 * i + k) = (b >>> k) &&& 1#32 := by
      unfold bitAt
      rw [show (8 * i + k) / 8 = i by omega, show (8 * i + k) % 8 = k by omega, hb]
    rw [← Nat.add_assoc, fedBits, fed_F _ _ (bitAt_or ..), ih (by omega), hbit, BitVec.xor_assoc, F_xor, fedN_succ]
    congr 1
    rw [F_even]
    · rw [BitVec.ushiftRight_xor_distrib, BitVec.shiftRight_add]
      have : (b >>> k &&& 1#32) >>> 1 = 0#32 := by
        rw [lsb_or]
        cases (b >>> k).getLsbD 0 <;> decide
      rw [this, BitVec.xor_zero]
    · rw [BitVec.getLsbD_xor, BitVec.getLsbD_and]
      simp
theorem byte_shr8 (b : B8) : b.setWidth 32 >>> 8 = 0#32 := by
  apply BitVec.eq_of_toNat_eq
  rw [BitVec.toNat_ushiftRight, BitVec.toNat_setWidth, Nat.shiftRight_eq_div_pow]
  have := b.isLt
  simp
  omega
theorem fedBits_next (x : W32) (bs : List B8) (i : Nat) : fedBits x bs (8 * (i + 1)) = feedByte (fedBits x bs (8 * i)) (byteAt bs i) := by
  rw [Nat.mul_add, Nat.mul_one, fedBits_byte x bs i 8 (Nat.le_refl _), byte_shr8, BitVec.xor_zero, feedByte_eq]
theorem fedBits_eq (x : W32) (bs : List B8) : ∀ i, i ≤ bs.length → fedBits x bs (8 * i) = feedAll x (bs.take i)
  | 0, _ => by simp [fedBits, feedAll]
  | i + 1, h => by rw [fedBits_next, fedBits_eq x bs i (by omega), take_snoc8 bs i (by omega), feedAll_snoc]
theorem moreR_eq (sum : W32) (bs : List B8) : moreR sum bs = moreW sum bs := by
  unfold moreR moreW
  rw [fedBits_eq _ _ _ (Nat.le_refl _), List.take_length]
theorem sealR_eq (bs : List B8) : sealR bs = sealW bs := by rw [sealR, moreR_eq]; rfl
theorem openedR_eq (bs : List B8) : openedR bs = openedW bs := by rw [openedR, moreR_eq]; rfl
end Go.Proofs.Ytnhmhnejglpijaa
namespace Go.Proofs.Ytnhmhnejglpijaa
theorem getLsbD_poly31 : poly.getLsbD 31 = true := by decide
theorem shr31_eq (x : W32) : x >>> 31 = 1#32 ↔ x.getLsbD 31 = true := by
  have h : x >>> 31 = if x.getLsbD 31 then 1#32 else 0#32 := by
    apply BitVec.eq_of_getLsbD_eq
    intro i hi
    rw [BitVec.getLsbD_ushiftRight]
    by_cases h0 : i = 0
    · subst h0
      show x.getLsbD 31 = _
      cases x.getLsbD 31 <;> decide
    · rw [BitVec.getLsbD_of_ge x (31 + i) (by omega)]
      cases x.getLsbD 31
      · simp
      · simp [BitVec.getLsbD_one, h0]
  rw [h]
  cases x.getLsbD 31 <;> decide
theorem unfed_F (x : W32) : unfed (F x) = x := by
  have h31 : (F x).getLsbD 31 = x.getLsbD 0 := by
    rw [F_eq, BitVec.getLsbD_xor, BitVec.getLsbD_ushiftRight, BitVec.getLsbD_of_ge x (1 + 31) (by omega)]
    cases x.getLsbD 0 <;> decide
  cases hx : x.getLsbD 0
  · rw [unfed, if_neg (by rw [shr31_eq, h31, hx]; decide), F_eq, hx, if_neg (by decide), BitVec.xor_zero]
    apply BitVec.eq_of_getLsbD_eq
    intro i hi
    rw [BitVec.getLsbD_shiftLeft, BitVec.getLsbD_ushiftRight]
    by_cases h0 : i = 0
    · subst h0; simpa using hx.symm
    · rw [show 1 + (i - 1) = i by omega]
      simp [hi, h0]
  · rw [unfed, if_pos (by rw [shr31_eq, h31, hx]), F_eq, hx, if_pos rfl, BitVec.xor_assoc, BitVec.xor_self, BitVec.xor_zero]
    apply BitVec.eq_of_getLsbD_eq
    intro i hi
    rw [BitVec.getLsbD_or, BitVec.getLsbD_shiftLeft, BitVec.getLsbD_ushiftRight, BitVec.getLsbD_one]
    by_cases h0 : i = 0
    · subst h0; simpa using hx.symm
    · rw [show 1 + (i - 1) = i by omega]
      simp [hi, h0]
theorem F_inj {x y : W32} (h : F x = F y) : x = y := by rw [← unfed_F x, ← unfed_F y, h]
theorem F_unfed (y : W32) : F (unfed y) = y := by
  rw [unfed]
  by_cases h : y >>> 31 = 1#32
  · rw [if_pos h, F_eq]
    have h31 := (shr31_eq y).1 h
    have h0 : ((y ^^^ poly) <<< 1 ||| 1#32).getLsbD 0 = true := by rw [BitVec.getLsbD_or]; simp
    rw [h0, if_pos rfl]
    have hs : ((y ^^^ poly) <<< 1 ||| 1#32) >>> 1 = y ^^^ poly := by
      apply BitVec.eq_of_getLsbD_eq
      intro i hi
      rw [BitVec.getLsbD_ushiftRight, BitVec.getLsbD_or, BitVec.getLsbD_shiftLeft, BitVec.getLsbD_one]
      by_cases hi31 : i = 31
      · subst hi31
        rw [BitVec.getLsbD_xor, h31, getLsbD_poly31]
        decide
      · rw [show 1 + i - 1 = i by omega]
        simp [show 1 + i < 32 by omega]
    rw [hs, BitVec.xor_assoc, BitVec.xor_self, BitVec.xor_zero]
  · rw [if_neg h, F_even]
    · apply BitVec.eq_of_getLsbD_eq
      intro i hi
      rw [BitVec.getLsbD_ushiftRight, BitVec.getLsbD_shiftLeft]
      by_cases hi31 : i = 31
      · subst hi31
        have : y.getLsbD 31 = false := by
          cases h2 : y.getLsbD 31
          · rfl
          · exact absurd ((shr31_eq y).2 h2) h
        rw [this]
        decide
      · rw [show 1 + i - 1 = i by omega]
        simp [show 1 + i < 32 by omega]
    · rw [BitVec.getLsbD_shiftLeft]; simp
theorem fedN_unfedN (n : Nat) (y : W32) : fedN n (unfedN n y) = y := by
  induction n generalizing y with
  | zero => rfl
  | succ n ih =>
    rw [show unfedN (n + 1) y = unfed (unfedN n y) from rfl, fedN_add n 1]
    rw [show fedN 1 (unfed (unfedN n y)) = F (unfed (unfedN n y)) from rfl, F_unfed, ih]
theorem fedN_inj (n : Nat) {x y : W32} (h : fedN n x = fedN n y) : x = y := by
  induction n with
  | zero => exact h
  | succ n ih => exact ih (F_inj h)
theorem unfedN_fedN (n : Nat) (x : W32) : unfedN n (fedN n x) = x := fedN_inj n (fedN_unfedN n _)
/-- eight bits of a word -/
theorem fed8_word (x y : W32) : fedN 8 (x ^^^ y) = feedByte x (y.setWidth 8) ^^^ (y >>> 8) := by
  have hy : y = (y.setWidth 8).setWidth 32 ^^^ (y >>> 8) <<< 8 := by
    apply BitVec.eq_of_getLsbD_eq
    intro i hi
    rw [BitVec.getLsbD_xor, BitVec.getLsbD_setWidth, BitVec.getLsbD_setWidth, BitVec.getLsbD_shiftLeft, BitVec.getLsbD_ushiftRight]
    by_cases h8 : i < 8
    · simp [h8, hi]
    · rw [show 8 + (i - 8) = i by omega]
      simp [h8, hi]
  have h8 : fedN 8 ((y >>> 8) <<< 8) = y >>> 8 := by
    rw [fedN_even]
    · apply BitVec.eq_of_getLsbD_eq
      intro i hi
      rw [BitVec.getLsbD_ushiftRight, BitVec.getLsbD_shiftLeft, BitVec.getLsbD_ushiftRight, BitVec.getLsbD_ushiftRight]
      rw [show 8 + (8 + i - 8) = 8 + i by omega]
      by_cases h : 8 + i < 32
      · simp [h]
      · rw [BitVec.getLsbD_of_ge y (8 + i) (by omega)]; simp
    · intro i hi
      rw [BitVec.getLsbD_shiftLeft]
      simp [hi]
  rw [feedByte_eq]
  conv => lhs; rw [hy]
  rw [← BitVec.xor_assoc, fedN_xor, h8]
theorem feed_four (x y : W32) : feedAll x (fourB y) = fedN 32 (x ^^^ y) := by
  have h : fedN 32 (x ^^^ y) = fedN 8 (fedN 8 (fedN 8 (fedN 8 (x ^^^ y)))) := by rw [← fedN_add, ← fedN_add, ← fedN_add]
  rw [h, fed8_word x y, fed8_word _ (y >>> 8), ← BitVec.shiftRight_add, fed8_word _ (y >>> (8 + 8)), ← BitVec.shiftRight_add, fed8_word _ (y >>> (8 + 8 + 8)), ← BitVec.shiftRight_add]
  have h32 : y >>> (8 + 8 + 8 + 8) = 0#32 := by
    apply BitVec.eq_of_getLsbD_eq
    intro i hi
    rw [BitVec.getLsbD_ushiftRight, BitVec.getLsbD_of_ge y _ (by omega)]
    simp
  rw [h32, BitVec.xor_zero]
  rfl
theorem more_tail (sum want : W32) : moreW sum (fourB (tailW sum want)) = want := by
  rw [moreW, feed_four, tailW, BitVec.xor_comm (unfedN 32 _), ← BitVec.xor_assoc, BitVec.xor_self, BitVec.zero_xor, fedN_unfedN, BitVec.not_not]
theorem tail_more (sum y : W32) : tailW sum (moreW sum (fourB y)) = y := by
  rw [moreW, feed_four, tailW, BitVec.not_not, unfedN_fedN, BitVec.xor_comm (~~~sum) y, BitVec.xor_assoc, BitVec.xor_self, BitVec.xor_zero]
/-- four bytes are those of a word -/
def packB (b0 b1 b2 b3 : B8) : W32 := b0.setWidth 32 ||| b1.setWidth 32 <<< 8 ||| b2.setWidth 32 <<< 16 ||| b3.setWidth 32 <<< 24
theorem getLsbD_set (b : B8) (i : Nat) : (b.setWidth 32).getLsbD i = b.getLsbD i := by
  rw [BitVec.getLsbD_setWidth]
  by_cases h : i < 32
  · simp [h]
  · rw [BitVec.getLsbD_of_ge b i (by omega)]; simp
theorem pack_four (b0 b1 b2 b3 : B8) : fourB (packB b0 b1 b2 b3) = [b0, b1, b2, b3] := by
  have ge : ∀ (b : B8) (i : Nat), 8 ≤ i → b.getLsbD i = false := fun b i h => BitVec.getLsbD_of_ge b i h
  have h0 : byt0 (packB b0 b1 b2 b3) = b0 := by
    apply BitVec.eq_of_getLsbD_eq
    intro i hi
    rw [byt0, packB, BitVec.getLsbD_setWidth]
    simp only [BitVec.getLsbD_or, BitVec.getLsbD_shiftLeft, getLsbD_set]
    simp [hi, show i < 16 by omega, show i < 24 by omega]
  have h1 : byt1 (packB b0 b1 b2 b3) = b1 := by
    apply BitVec.eq_of_getLsbD_eq
    intro i hi
    rw [byt1, packB, BitVec.getLsbD_setWidth, BitVec.getLsbD_ushiftRight]
    simp only [BitVec.getLsbD_or, BitVec.getLsbD_shiftLeft, getLsbD_set]
    rw [ge b0 (8 + i) (by omega), show 8 + i - 8 = i by omega]
    simp [hi, show 8 + i < 16 by omega, show 8 + i < 24 by omega, show 8 + i < 32 by omega]
  have h2 : byt2 (packB b0 b1 b2 b3) = b2 := by
    apply BitVec.eq_of_getLsbD_eq
    intro i hi
    rw [byt2, packB, BitVec.getLsbD_setWidth, BitVec.getLsbD_ushiftRight]
    simp only [BitVec.getLsbD_or, BitVec.getLsbD_shiftLeft, getLsbD_set]
    rw [ge b0 (16 + i) (by omega), ge b1 (16 + i - 8) (by omega), show 16 + i - 16 = i by omega]
    simp [hi, show 16 + i < 24 by omega, show 16 + i < 32 by omega]
  have h3 : byt3 (packB b0 b1 b2 b3) = b3 := by
    apply BitVec.eq_of_getLsbD_eq
    intro i hi
    rw [byt3, packB, BitVec.getLsbD_setWidth, BitVec.getLsbD_ushiftRight]
    simp only [BitVec.getLsbD_or, BitVec.getLsbD_shiftLeft, getLsbD_set]
    rw [ge b0 (24 + i) (by omega), ge b1 (24 + i - 8) (by omega), ge b2 (24 + i - 16) (by omega), show 24 + i - 24 = i by omega]
    simp [hi, show 24 + i < 32 by omega]
  rw [fourB, h0, h1, h2, h3]
theorem fourB_inj {x y : W32} (h : fourB x = fourB y) : x = y := by
  have h1 := tail_more 0#32 x
  rw [h, tail_more] at h1
  exact h1.symm
theorem feedByte_inj {x y : W32} {b : B8} (h : feedByte x b = feedByte y b) : x = y := by
  rw [feedByte_eq, feedByte_eq] at h
  have := fedN_inj 8 h
  have h2 := congrArg (· ^^^ b.setWidth 32) this
  simpa [BitVec.xor_assoc] using h2
theorem feedByte_inj2 {x : W32} {b c : B8} (h : feedByte x b = feedByte x c) : b = c := by
  rw [feedByte_eq, feedByte_eq] at h
  have h1 := congrArg (x ^^^ ·) (fedN_inj 8 h)
  simp only [← BitVec.xor_assoc, BitVec.xor_self, BitVec.zero_xor] at h1
  apply BitVec.eq_of_toNat_eq
  have h2 := congrArg BitVec.toNat h1
  rw [BitVec.toNat_setWidth, BitVec.toNat_setWidth] at h2
  have := b.isLt
  have := c.isLt
  omega
theorem feedAll_append (x : W32) (a b : List B8) : feedAll x (a ++ b) = feedAll (feedAll x a) b := by simp [feedAll]
theorem feedAll_inj {x y : W32} (l : List B8) (h : feedAll x l = feedAll y l) : x = y := by
  induction l generalizing x y with
  | nil => exact h
  | cons b l ih => exact feedByte_inj (ih h)
theorem more_append (sum : W32) (a b : List B8) : moreW (moreW sum a) b = moreW sum (a ++ b) := by
  rw [moreW, moreW, moreW, BitVec.not_not, feedAll_append]
theorem more_set (sum : W32) (l : List B8) (k : Nat) (hk : k < l.length) (b : B8) : moreW sum (l.set k b) = moreW sum l ↔ b = byteAt l k := by
  have h1 : l = l.take k ++ byteAt l k :: l.drop (k + 1) := by
    conv => lhs; rw [← List.take_append_drop k l, List.drop_eq_getElem_cons hk]
    simp [byteAt, List.getD_eq_getElem?_getD, hk]
  have h2 : l.set k b = l.take k ++ b :: l.drop (k + 1) := by rw [List.set_eq_take_append_cons_drop, if_pos hk]
  rw [h2, moreW, moreW]
  conv => lhs; rhs; rw [h1]
  rw [feedAll_append, feedAll_append]
  constructor
  · intro h
    have h3 := congrArg (~~~ ·) h
    simp only [BitVec.not_not] at h3
    exact feedByte_inj2 (feedAll_inj _ h3)
  · intro h
    rw [h]
end Go.Proofs.Ytnhmhnejglpijaa
namespace Go.Proofs.Ytnhmhnejglpijaa
/-- A register behind bits that a function tells. -/
def fedSeq (x : W32) (f : Nat → W32) : Nat → W32
  | 0 => x
  | n + 1 => F (fedSeq x f n ^^^ f n)
theorem fedBits_seq (x : W32) (bs : List B8) (n : Nat) : fedBits x bs n = fedSeq x (bitAt bs) n := by
  induction n with
  | zero => rfl
  | succ n ih => rw [fedBits, fed_F _ _ (bitAt_or ..), ih, fedSeq]
theorem fedSeq_xor (x y : W32) (f g : Nat → W32) (n : Nat) : fedSeq (x ^^^ y) (fun i => f i ^^^ g i) n = fedSeq x f n ^^^ fedSeq y g n := by
  induction n with
  | zero => rfl
  | succ n ih =>
    rw [fedSeq, fedSeq, fedSeq, ih, ← F_xor]
    congr 1
    rw [BitVec.xor_assoc, ← BitVec.xor_assoc (fedSeq y g n), BitVec.xor_comm (fedSeq y g n) (f n), BitVec.xor_assoc, ← BitVec.xor_assoc, ← BitVec.xor_assoc]
theorem F_zero : F 0#32 = 0#32 := by decide
theorem fedN_zero (n : Nat) : fedN n 0#32 = 0#32 := by
  induction n with
  | zero => rfl
  | succ n ih => rw [fedN_succ, ih, F_zero]
/-- no bit yet, then those of a word -/
theorem fedSeq_word (f : Nat → W32) (b : Nat) (v : W32) (h0 : ∀ i, i < b → f i = 0#32) (hv : ∀ k, f (b + k) = (v >>> k) &&& 1#32) (k : Nat) :
    fedSeq 0#32 f (b + k) = fedN k v ^^^ (v >>> k) := by
  have hz : ∀ n, n ≤ b → fedSeq 0#32 f n = 0#32 := by
    intro n
    induction n with
    | zero => intro _; rfl
    | succ n ih => intro hn; rw [fedSeq, ih (by omega), h0 n (by omega), BitVec.xor_zero, F_zero]
  induction k with
  | zero => rw [Nat.add_zero, hz b (Nat.le_refl _)]; simp [fedN]
  | succ k ih =>
    rw [← Nat.add_assoc, fedSeq, ih, hv k, BitVec.xor_assoc, F_xor, fedN_succ]
    congr 1
    rw [F_even]
    · rw [BitVec.ushiftRight_xor_distrib, BitVec.shiftRight_add]
      have : (v >>> k &&& 1#32) >>> 1 = 0#32 := by
        rw [lsb_or]
        cases (v >>> k).getLsbD 0 <;> decide
      rw [this, BitVec.xor_zero]
    · rw [BitVec.getLsbD_xor, BitVec.getLsbD_and]
      simp
theorem fedN_ne {n : Nat} {v : W32} (h : v ≠ 0#32) : fedN n v ≠ 0#32 := fun e => h (fedN_inj n (e.trans (fedN_zero n).symm))

/-! ### What is spoilt, bit by bit -/
theorem pow_bit : ∀ r : Nat, r < 8 → ∀ q : Nat, q < 8 → (((1#8 <<< r).setWidth 32 >>> q) &&& 1#32 : W32) = if q = r then 1#32 else 0#32 := by decide
theorem bitAt_flip (bs : List B8) (N n : Nat) (hN : N < 8 * bs.length) : bitAt (flipB bs N) n = bitAt bs n ^^^ (if n = N then 1#32 else 0#32) := by
  unfold bitAt flipB
  by_cases h : n / 8 = N / 8
  · have hb : byteAt (bs.set (N / 8) (byteAt bs (N / 8) ^^^ 1#8 <<< (N % 8))) (n / 8) = byteAt bs (n / 8) ^^^ 1#8 <<< (N % 8) := by
      rw [h]
      simp [byteAt, List.getD_eq_getElem?_getD, show N / 8 < bs.length by omega]
    rw [hb, BitVec.setWidth_xor, BitVec.ushiftRight_xor_distrib, xor_and, pow_bit _ (Nat.mod_lt _ (by omega)) _ (Nat.mod_lt _ (by omega))]
    congr 1
    by_cases e : n = N
    · rw [if_pos e, if_pos (by rw [e])]
    · rw [if_neg e, if_neg (by omega)]
  · have hb : byteAt (bs.set (N / 8) (byteAt bs (N / 8) ^^^ 1#8 <<< (N % 8))) (n / 8) = byteAt bs (n / 8) := by
      simp [byteAt, List.getD_eq_getElem?_getD, List.getElem?_set, Ne.symm h]
    rw [hb, if_neg (fun e => h (by rw [e])), BitVec.xor_zero]
/-- what is turned at bit n, k bits being over -/
def turnAt (m : W32) (bit len k n : Nat) : W32 := if bit ≤ n ∧ n < bit + k ∧ isB m bit len (n - bit) = true then 1#32 else 0#32
theorem bitAt_spoil (bs : List B8) (bit : Nat) (m : W32) (k n : Nat) : bitAt (spoilK bs bit m k) n = bitAt bs n ^^^ turnAt m bit bs.length k n := by
  induction k with
  | zero => rw [spoilK, turnAt, if_neg (by omega), BitVec.xor_zero]
  | succ k ih =>
    rw [spoilK]
    by_cases hi : isB m bit bs.length k = true
    · rw [if_pos hi]
      have hN : bit + k < 8 * bs.length := by simp only [isB, Bool.and_eq_true, decide_eq_true_eq] at hi; exact hi.2
      rw [bitAt_flip _ _ _ (by rw [spoilK_length]; exact hN), ih, BitVec.xor_assoc]
      congr 1
      unfold turnAt
      by_cases e : n = bit + k
      · subst e
        rw [if_neg (by omega), if_pos rfl, if_pos ⟨by omega, by omega, by rw [show bit + k - bit = k by omega]; exact hi⟩]
        decide
      · rw [if_neg e, BitVec.xor_zero]
        by_cases h : bit ≤ n ∧ n < bit + k ∧ isB m bit bs.length (n - bit) = true
        · rw [if_pos h, if_pos ⟨h.1, by omega, h.2.2⟩]
        · rw [if_neg h, if_neg (fun h2 => h ⟨h2.1, by omega, h2.2.2⟩)]
    · rw [if_neg hi, ih]
      congr 1
      unfold turnAt
      by_cases h : bit ≤ n ∧ n < bit + k ∧ isB m bit bs.length (n - bit) = true
      · rw [if_pos h, if_pos ⟨h.1, by omega, h.2.2⟩]
      · rw [if_neg h, if_neg]
        intro h2
        by_cases e : n = bit + k
        · apply hi
          have := h2.2.2
          rwa [e, show bit + k - bit = k by omega] at this
        · exact h ⟨h2.1, by omega, h2.2.2⟩
theorem byte_bits {b c : B8} (h : ∀ r, r < 8 → ((b.setWidth 32 >>> r) &&& 1#32 : W32) = (c.setWidth 32 >>> r) &&& 1#32) : b = c := by
  apply BitVec.eq_of_getLsbD_eq
  intro i hi
  have h1 := h i hi
  rw [lsb_or, lsb_or, BitVec.getLsbD_ushiftRight, BitVec.getLsbD_ushiftRight, getLsbD_set, getLsbD_set, Nat.add_zero] at h1
  revert h1
  generalize b.getLsbD i = p
  generalize c.getLsbD i = q
  revert p q
  decide
theorem bits_ext {a b : List B8} (hl : a.length = b.length) (h : ∀ n, n < 8 * a.length → bitAt a n = bitAt b n) : a = b := by
  apply List.ext_getElem hl
  intro i h1 h2
  have hb : byteAt a i = byteAt b i := byte_bits (fun r hr => by
    have := h (8 * i + r) (by omega)
    unfold bitAt at this
    rwa [show (8 * i + r) / 8 = i by omega, show (8 * i + r) % 8 = r by omega] at this)
  simpa [byteAt, List.getD_eq_getElem?_getD, h1, h2] using hb
theorem spoil_twice (bs : List B8) (bit : Nat) (m : W32) (k : Nat) : spoilK (spoilK bs bit m k) bit m k = bs := by
  apply bits_ext (by rw [spoilK_length, spoilK_length])
  intro n _
  rw [bitAt_spoil, bitAt_spoil, spoilK_length, BitVec.xor_assoc, BitVec.xor_self, BitVec.xor_zero]
theorem spoilS_len (a b : List B8) (bit : Nat) (m : W32) (k : Nat) (h : a.length = b.length) : spoilS a bit m k = spoilS b bit m k := by
  induction k with
  | zero => rfl
  | succ k ih => rw [spoilS, spoilS, ih, h]
theorem spoilS_iff (bs : List B8) (bit : Nat) (m : W32) (k : Nat) : spoilS bs bit m k = true ↔ ∃ j, j < k ∧ isB m bit bs.length j = true := by
  induction k with
  | zero => simp [spoilS]
  | succ k ih =>
    rw [spoilS]
    by_cases h : isB m bit bs.length k = true
    · rw [if_pos h]; exact ⟨fun _ => ⟨k, by omega, h⟩, fun _ => rfl⟩
    · rw [if_neg h, ih]
      constructor
      · rintro ⟨j, hj, hb⟩; exact ⟨j, by omega, hb⟩
      · rintro ⟨j, hj, hb⟩
        by_cases e : j = k
        · subst e; exact absurd hb h
        · exact ⟨j, by omega, hb⟩
/-- the word of the bits that are turned -/
def turnW (m : W32) (bit len : Nat) : W32 := BitVec.ofNat 32 (m.toNat % 2 ^ (8 * len - bit))
theorem turnW_bit (m : W32) (bit len k : Nat) : (turnW m bit len).getLsbD k = (m.getLsbD k && decide (k < 8 * len - bit)) := by
  unfold turnW
  rw [BitVec.getLsbD_ofNat, Nat.testBit_mod_two_pow]
  show _ = (m.toNat.testBit k && _)
  by_cases h : k < 32
  · simp [h, Bool.and_comm]
  · have : m.toNat.testBit k = false := BitVec.getLsbD_of_ge m k (by omega)
    rw [this]; simp
theorem turnAt_word (m : W32) (bit len k : Nat) (hb : bit < 8 * len) : turnAt m bit len 32 (bit + k) = (turnW m bit len >>> k) &&& 1#32 := by
  rw [lsb_or, BitVec.getLsbD_ushiftRight, Nat.add_zero, turnW_bit]
  unfold turnAt isB
  rw [show bit + k - bit = k by omega, lsb_or, BitVec.getLsbD_ushiftRight, Nat.add_zero]
  by_cases hk : k < 32
  · cases hm : m.getLsbD k
    · simp
    · by_cases h : bit + k < 8 * len
      · rw [if_pos ⟨by omega, by omega, by simp [h]⟩, if_pos (by simp; omega)]
      · rw [if_neg (fun h2 => h (by simpa using h2.2.2)), if_neg (by simp; omega)]
  · rw [if_neg (by omega), BitVec.getLsbD_of_ge m k (by omega)]
    simp
theorem turnW_ne {m : W32} {bit : Nat} {bs : List B8} (h : spoilS bs bit m 32 = true) : turnW m bit bs.length ≠ 0#32 := by
  obtain ⟨j, hj, hb⟩ := (spoilS_iff bs bit m 32).1 h
  intro e
  have h1 := turnW_bit m bit bs.length j
  rw [e] at h1
  simp only [isB, Bool.and_eq_true, decide_eq_true_eq] at hb
  rw [lsb_or, BitVec.getLsbD_ushiftRight, Nat.add_zero] at hb
  have h2 : m.getLsbD j = true := by
    cases hm : m.getLsbD j
    · rw [hm] at hb; exact absurd hb.1 (by decide)
    · rfl
  rw [h2] at h1
  simp at h1
  omega
theorem feed_spoilt (x : W32) (bs : List B8) (bit : Nat) (m : W32) (hb : bit < 8 * bs.length) (h : spoilS bs bit m 32 = true) : feedAll x (spoilK bs bit m 32) ≠ feedAll x bs := by
  have e1 : feedAll x (spoilK bs bit m 32) = fedSeq x (bitAt (spoilK bs bit m 32)) (8 * bs.length) := by
    rw [← fedBits_seq, ← spoilK_length bs bit m 32, fedBits_eq _ _ _ (Nat.le_refl _), List.take_length]
  have e2 : feedAll x bs = fedSeq x (bitAt bs) (8 * bs.length) := by
    rw [← fedBits_seq, fedBits_eq _ _ _ (Nat.le_refl _), List.take_length]
  have e3 : fedSeq x (bitAt (spoilK bs bit m 32)) (8 * bs.length) = fedSeq x (bitAt bs) (8 * bs.length) ^^^ fedSeq 0#32 (turnAt m bit bs.length 32) (8 * bs.length) := by
    rw [← fedSeq_xor, BitVec.xor_zero]
    congr 1
    funext n
    exact bitAt_spoil ..
  have e4 : fedSeq 0#32 (turnAt m bit bs.length 32) (8 * bs.length) = fedN (8 * bs.length - bit) (turnW m bit bs.length) := by
    have := fedSeq_word (turnAt m bit bs.length 32) bit (turnW m bit bs.length) (fun i hi => by rw [turnAt, if_neg (by omega)]) (fun k => turnAt_word m bit bs.length k hb) (8 * bs.length - bit)
    rw [show bit + (8 * bs.length - bit) = 8 * bs.length by omega] at this
    rw [this]
    have hz : turnW m bit bs.length >>> (8 * bs.length - bit) = 0#32 := by
      apply BitVec.eq_of_getLsbD_eq
      intro i _
      rw [BitVec.getLsbD_ushiftRight, turnW_bit]
      simp
    rw [hz, BitVec.xor_zero]
  rw [e1, e2, e3, e4]
  intro e
  have := congrArg (fedSeq x (bitAt bs) (8 * bs.length) ^^^ ·) e
  simp only [← BitVec.xor_assoc, BitVec.xor_self, BitVec.zero_xor] at this
  exact fedN_ne (turnW_ne h) this
/-- Sealed: the register behind all is one word. -/
theorem feed_sealed (bs : List B8) : feedAll (~~~0#32) (sealW bs) = fedN 32 (BitVec.allOnes 32) := by
  rw [sealW, feedAll_append, feed_four]
  congr 1
  show _ ^^^ (moreW 0#32 bs) = _
  unfold moreW
  apply BitVec.eq_of_getLsbD_eq
  intro i hi
  rw [BitVec.getLsbD_xor, BitVec.getLsbD_not, BitVec.getLsbD_allOnes]
  simp [hi]
theorem opened_iff (bs : List B8) (h : 4 ≤ bs.length) : openedW bs ≠ none → feedAll (~~~0#32) bs = fedN 32 (BitVec.allOnes 32) := by
  intro hn
  unfold openedW at hn
  rw [if_neg (by omega)] at hn
  by_cases he : bs.drop (bs.length - 4) = fourB (moreW 0 (bs.take (bs.length - 4)))
  · rw [← feed_sealed (bs.take (bs.length - 4)), sealW, ← he, List.take_append_drop]
  · rw [if_neg he] at hn
    exact absurd rfl hn
theorem sealW_length (bs : List B8) : (sealW bs).length = bs.length + 4 := by simp [sealW, fourB]
theorem opened_sealed (bs : List B8) : openedW (sealW bs) = some bs := by
  have hl := sealW_length bs
  unfold openedW
  rw [if_neg (by omega), hl, show bs.length + 4 - 4 = bs.length by omega]
  have h1 : (sealW bs).take bs.length = bs := by simp [sealW]
  have h2 : (sealW bs).drop bs.length = fourB (moreW 0 bs) := by simp [sealW]
  rw [h1, h2, if_pos rfl]
theorem opened_spoilt (x : List B8) (bit : Nat) (m : W32) (hb : bit < 8 * (sealW x).length) (h : spoilS (sealW x) bit m 32 = true) : openedW (spoilK (sealW x) bit m 32) = none := by
  have hl := sealW_length x
  cases ho : openedW (spoilK (sealW x) bit m 32) with
  | none => rfl
  | some l =>
    have h1 := opened_iff (spoilK (sealW x) bit m 32) (by rw [spoilK_length]; omega) (by rw [ho]; exact fun e => by cases e)
    rw [← feed_sealed x] at h1
    exact absurd h1 (feed_spoilt _ _ _ _ hb h)
theorem spoil_none (bs : List B8) (bit : Nat) (m : W32) (h : spoilS bs bit m 32 = false) : m = 0#32 ∨ 8 * bs.length < bit + 32 := by
  by_cases h2 : 8 * bs.length < bit + 32
  · exact .inr h2
  · refine .inl ?_
    apply BitVec.eq_of_getLsbD_eq
    intro i hi
    cases hm : m.getLsbD i
    · simp
    · exfalso
      have : spoilS bs bit m 32 = true := (spoilS_iff bs bit m 32).2 ⟨i, hi, by
        unfold isB
        rw [lsb_or, BitVec.getLsbD_ushiftRight, Nat.add_zero, hm]
        simp
        omega⟩
      rw [h] at this
      cases this
end Go.Proofs.Ytnhmhnejglpijaa
