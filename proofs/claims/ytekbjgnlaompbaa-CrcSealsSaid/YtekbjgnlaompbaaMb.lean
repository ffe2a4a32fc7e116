/- Plain laws: four bytes behind others; one byte that is another one. -/
import Derived.Test.YtekbjgnlaompbaaMa
namespace Go.Proofs.Ytekbjgnlaompbaa
theorem getLsbD_poly31 : poly.getLsbD 31 = true := by decide
theorem shr31_eq (x : W32) : x >>> 31 = 1#32 ↔ x.getLsbD 31 = true := by
  have h : x >>> 31 = if x.getLsbD 31 then 1#32 else 0#32 := by
    apply BitVec.eq_of_getLsbD_eq
    intro i hi
    rw [BitVec.getLsbD_ushiftRight]
    by_cases h0 : i = 0
    · subst h0
      show x.getLsbD 31 = _
      cases x.getLsbD 31 <;> decide
    · rw [BitVec.getLsbD_of_ge x (31 + i) (by omega)]
      cases x.getLsbD 31
      · simp
      · simp [BitVec.getLsbD_one, h0]
  rw [h]
  cases x.getLsbD 31 <;> decide
theorem unfed_F (x : W32) : unfed (F x) = x := by
  have h31 : (F x).getLsbD 31 = x.getLsbD 0 := by
    rw [F_eq, BitVec.getLsbD_xor, BitVec.getLsbD_ushiftRight, BitVec.getLsbD_of_ge x (1 + 31) (by omega)]
    cases x.getLsbD 0 <;> decide
  cases hx : x.getLsbD 0
  · rw [unfed, if_neg (by rw [shr31_eq, h31, hx]; decide), F_eq, hx, if_neg (by decide), BitVec.xor_zero]
    apply BitVec.eq_of_getLsbD_eq
    intro i hi
    rw [BitVec.getLsbD_shiftLeft, BitVec.getLsbD_ushiftRight]
    by_cases h0 : i = 0
    · subst h0; simpa using hx.symm
    · rw [show 1 + (i - 1) = i by omega]
      simp [hi, h0]
  · rw [unfed, if_pos (by rw [shr31_eq, h31, hx]), F_eq, hx, if_pos rfl, BitVec.xor_assoc, BitVec.xor_self, BitVec.xor_zero]
    apply BitVec.eq_of_getLsbD_eq
    intro i hi
    rw [BitVec.getLsbD_or, BitVec.getLsbD_shiftLeft, BitVec.getLsbD_ushiftRight, BitVec.getLsbD_one]
    by_cases h0 : i = 0
    · subst h0; simpa using hx.symm
    · rw [show 1 + (i - 1) = i by omega]
      simp [hi, h0]
theorem F_inj {x y : W32} (h : F x = F y) : x = y := by rw [← unfed_F x, ← unfed_F y, h]
theorem F_unfed (y : W32) : F (unfed y) = y := by
  rw [unfed]
  by_cases h : y >>> 31 = 1#32
  · rw [if_pos h, F_eq]
    have h31 := (shr31_eq y).1 h
    have h0 : ((y ^^^ poly) <<< 1 ||| 1#32).getLsbD 0 = true := by rw [BitVec.getLsbD_or]; simp
    rw [h0, if_pos rfl]
    have hs : ((y ^^^ poly) <<< 1 ||| 1#32) >>> 1 = y ^^^ poly := by
      apply BitVec.eq_of_getLsbD_eq
      intro i hi
      rw [BitVec.getLsbD_ushiftRight, BitVec.getLsbD_or, BitVec.getLsbD_shiftLeft, BitVec.getLsbD_one]
      by_cases hi31 : i = 31
      · subst hi31
        rw [BitVec.getLsbD_xor, h31, getLsbD_poly31]
        decide
      · rw [show 1 + i - 1 = i by omega]
        simp [show 1 + i < 32 by omega]
    rw [hs, BitVec.xor_assoc, BitVec.xor_self, BitVec.xor_zero]
  · rw [if_neg h, F_even]
    · apply BitVec.eq_of_getLsbD_eq
      intro i hi
      rw [BitVec.getLsbD_ushiftRight, BitVec.getLsbD_shiftLeft]
      by_cases hi31 : i = 31
      · subst hi31
        have : y.getLsbD 31 = false := by
          cases h2 : y.getLsbD 31
          · rfl
          · exact absurd ((shr31_eq y).2 h2) h
        rw [this]
        decide
      · rw [show 1 + i - 1 = i by omega]
        simp [show 1 + i < 32 by omega]
    · rw [BitVec.getLsbD_shiftLeft]; simp
theorem fedN_unfedN (n : Nat) (y : W32) : fedN n (unfedN n y) = y := by
  induction n generalizing y with
  | zero => rfl
  | succ n ih =>
    rw [show unfedN (n + 1) y = unfed (unfedN n y) from rfl, fedN_add n 1]
    rw [show fedN 1 (unfed (unfedN n y)) = F (unfed (unfedN n y)) from rfl, F_unfed, ih]
theorem fedN_inj (n : Nat) {x y : W32} (h : fedN n x = fedN n y) : x = y := by
  induction n with
  | zero => exact h
  | succ n ih => exact ih (F_inj h)
theorem unfedN_fedN (n : Nat) (x : W32) : unfedN n (fedN n x) = x := fedN_inj n (fedN_unfedN n _)
/-- eight bits of a word -/
theorem fed8_word (x y : W32) : fedN 8 (x ^^^ y) = feedByte x (y.setWidth 8) ^^^ (y >>> 8) := by
  have hy : y = (y.setWidth 8).setWidth 32 ^^^ (y >>> 8) <<< 8 := by
    apply BitVec.eq_of_getLsbD_eq
    intro i hi
    rw [BitVec.getLsbD_xor, BitVec.getLsbD_setWidth, BitVec.getLsbD_setWidth, BitVec.getLsbD_shiftLeft, BitVec.getLsbD_ushiftRight]
    by_cases h8 : i < 8
    · simp [h8, hi]
    · rw [show 8 + (i - 8) = i by omega]
      simp [h8, hi]
  have h8 : fedN 8 ((y >>> 8) <<< 8) = y >>> 8 := by
    rw [fedN_even]
    · apply BitVec.eq_of_getLsbD_eq
      intro i hi
      rw [BitVec.getLsbD_ushiftRight, BitVec.getLsbD_shiftLeft, BitVec.getLsbD_ushiftRight, BitVec.getLsbD_ushiftRight]
      rw [show 8 + (8 + i - 8) = 8 + i by omega]
      by_cases h : 8 + i < 32
      · simp [h]
      · rw [BitVec.getLsbD_of_ge y (8 + i) (by omega)]; simp
    · intro i hi
      rw [BitVec.getLsbD_shiftLeft]
      simp [hi]
  rw [feedByte_eq]
  conv => lhs; rw [hy]
  rw [← BitVec.xor_assoc, fedN_xor, h8]
theorem feed_four (x y : W32) : feedAll x (fourB y) = fedN 32 (x ^^^ y) := by
  have h : fedN 32 (x ^^^ y) = fedN 8 (fedN 8 (fedN 8 (fedN 8 (x ^^^ y)))) := by rw [← fedN_add, ← fedN_add, ← fedN_add]
  rw [h, fed8_word x y, fed8_word _ (y >>> 8), ← BitVec.shiftRight_add, fed8_word _ (y >>> (8 + 8)), ← BitVec.shiftRight_add, fed8_word _ (y >>> (8 + 8 + 8)), ← BitVec.shiftRight_add]
  have h32 : y >>> (8 + 8 + 8 + 8) = 0#32 := by
    apply BitVec.eq_of_getLsbD_eq
    intro i hi
    rw [BitVec.getLsbD_ushiftRight, BitVec.getLsbD_of_ge y _ (by omega)]
    simp
  rw [h32, BitVec.xor_zero]
  rfl
theorem more_tail (sum want : W32) : moreW sum (fourB (tailW sum want)) = want := by
  rw [moreW, feed_four, tailW, BitVec.xor_comm (unfedN 32 _), ← BitVec.xor_assoc, BitVec.xor_self, BitVec.zero_xor, fedN_unfedN, BitVec.not_not]
theorem tail_more (sum y : W32) : tailW sum (moreW sum (fourB y)) = y := by
  rw [moreW, feed_four, tailW, BitVec.not_not, unfedN_fedN, BitVec.xor_comm (~~~sum) y, BitVec.xor_assoc, BitVec.xor_self, BitVec.xor_zero]
/-- four bytes are those of a word -/
def packB (b0 b1 b2 b3 : B8) : W32 := b0.setWidth 32 ||| b1.setWidth 32 <<< 8 ||| b2.setWidth 32 <<< 16 ||| b3.setWidth 32 <<< 24
theorem getLsbD_set (b : B8) (i : Nat) : (b.setWidth 32).getLsbD i = b.getLsbD i := by
  rw [BitVec.getLsbD_setWidth]
  by_cases h : i < 32
  · simp [h]
  · rw [BitVec.getLsbD_of_ge b i (by omega)]; simp
theorem pack_four (b0 b1 b2 b3 : B8) : fourB (packB b0 b1 b2 b3) = [b0, b1, b2, b3] := by
  have ge : ∀ (b : B8) (i : Nat), 8 ≤ i → b.getLsbD i = false := fun b i h => BitVec.getLsbD_of_ge b i h
  have h0 : byt0 (packB b0 b1 b2 b3) = b0 := by
    apply BitVec.eq_of_getLsbD_eq
    intro i hi
    rw [byt0, packB, BitVec.getLsbD_setWidth]
    simp only [BitVec.getLsbD_or, BitVec.getLsbD_shiftLeft, getLsbD_set]
    simp [hi, show i < 16 by omega, show i < 24 by omega]
  have h1 : byt1 (packB b0 b1 b2 b3) = b1 := by
    apply BitVec.eq_of_getLsbD_eq
    intro i hi
    rw [byt1, packB, BitVec.getLsbD_setWidth, BitVec.getLsbD_ushiftRight]
    simp only [BitVec.getLsbD_or, BitVec.getLsbD_shiftLeft, getLsbD_set]
    rw [ge b0 (8 + i) (by omega), show 8 + i - 8 = i by omega]
    simp [hi, show 8 + i < 16 by omega, show 8 + i < 24 by omega, show 8 + i < 32 by omega]
  have h2 : byt2 (packB b0 b1 b2 b3) = b2 := by
    apply BitVec.eq_of_getLsbD_eq
    intro i hi
    rw [byt2, packB, BitVec.getLsbD_setWidth, BitVec.getLsbD_ushiftRight]
    simp only [BitVec.getLsbD_or, BitVec.getLsbD_shiftLeft, getLsbD_set]
    rw [ge b0 (16 + i) (by omega), ge b1 (16 + i - 8) (by omega), show 16 + i - 16 = i by omega]
    simp [hi, show 16 + i < 24 by omega, show 16 + i < 32 by omega]
  have h3 : byt3 (packB b0 b1 b2 b3) = b3 := by
    apply BitVec.eq_of_getLsbD_eq
    intro i hi
    rw [byt3, packB, BitVec.getLsbD_setWidth, BitVec.getLsbD_ushiftRight]
    simp only [BitVec.getLsbD_or, BitVec.getLsbD_shiftLeft, getLsbD_set]
    rw [ge b0 (24 + i) (by omega), ge b1 (24 + i - 8) (by omega), ge b2 (24 + i - 16) (by omega), show 24 + i - 24 = i by omega]
    simp [hi, show 24 + i < 32 by omega]
  rw [fourB, h0, h1, h2, h3]
theorem fourB_inj {x y : W32} (h : fourB x = fourB y) : x = y := by
  have h1 := tail_more 0#32 x
  rw [h, tail_more] at h1
  exact h1.symm
theorem feedByte_inj {x y : W32} {b : B8} (h : feedByte x b = feedByte y b) : x = y := by
  rw [feedByte_eq, feedByte_eq] at h
  have := fedN_inj 8 h
  have h2 := congrArg (· ^^^ b.setWidth 32) this
  simpa [BitVec.xor_assoc] using h2
theorem feedByte_inj2 {x : W32} {b c : B8} (h : feedByte x b = feedByte x c) : b = c := by
  rw [feedByte_eq, feedByte_eq] at h
  have h1 := congrArg (x ^^^ ·) (fedN_inj 8 h)
  simp only [← BitVec.xor_assoc, BitVec.xor_self, BitVec.zero_xor] at h1
  apply BitVec.eq_of_toNat_eq
  have h2 := congrArg BitVec.toNat h1
  rw [BitVec.toNat_setWidth, BitVec.toNat_setWidth] at h2
  have := b.isLt
  have := c.isLt
  omega
theorem feedAll_append (x : W32) (a b : List B8) : feedAll x (a ++ b) = feedAll (feedAll x a) b := by simp [feedAll]
theorem feedAll_inj {x y : W32} (l : List B8) (h : feedAll x l = feedAll y l) : x = y := by
  induction l generalizing x y with
  | nil => exact h
  | cons b l ih => exact feedByte_inj (ih h)
theorem more_append (sum : W32) (a b : List B8) : moreW (moreW sum a) b = moreW sum (a ++ b) := by
  rw [moreW, moreW, moreW, BitVec.not_not, feedAll_append]
theorem more_set (sum : W32) (l : List B8) (k : Nat) (hk : k < l.length) (b : B8) : moreW sum (l.set k b) = moreW sum l ↔ b = byteAt l k := by
  have h1 : l = l.take k ++ byteAt l k :: l.drop (k + 1) := by
    conv => lhs; rw [← List.take_append_drop k l, List.drop_eq_getElem_cons hk]
    simp [byteAt, List.getD_eq_getElem?_getD, hk]
  have h2 : l.set k b = l.take k ++ b :: l.drop (k + 1) := by rw [List.set_eq_take_append_cons_drop, if_pos hk]
  rw [h2, moreW, moreW]
  conv => lhs; rhs; rw [h1]
  rw [feedAll_append, feedAll_append]
  constructor
  · intro h
    have h3 := congrArg (~~~ ·) h
    simp only [BitVec.not_not] at h3
    exact feedByte_inj2 (feedAll_inj _ h3)
  · intro h
    rw [h]
end Go.Proofs.Ytekbjgnlaompbaa
