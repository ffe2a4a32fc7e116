/- Plain laws: what is spoilt within 32 bits in a row is nothing sealed. -/
import Derived.Test.YtekbjgnlaompbaaMb
namespace Go.Proofs.Ytekbjgnlaompbaa
/-- A register behind bits that a function tells. -/
def fedSeq (x : W32) (f : Nat → W32) : Nat → W32
  | 0 => x
  | n + 1 => F (fedSeq x f n ^^^ f n)
theorem fedBits_seq (x : W32) (bs : List B8) (n : Nat) : fedBits x bs n = fedSeq x (bitAt bs) n := by
  induction n with
  | zero => rfl
  | succ n ih => rw [fedBits, fed_F _ _ (bitAt_or ..), ih, fedSeq]
theorem fedSeq_xor (x y : W32) (f g : Nat → W32) (n : Nat) : fedSeq (x ^^^ y) (fun i => f i ^^^ g i) n = fedSeq x f n ^^^ fedSeq y g n := by
  induction n with
  | zero => rfl
  | succ n ih =>
    rw [fedSeq, fedSeq, fedSeq, ih, ← F_xor]
    congr 1
    rw [BitVec.xor_assoc, ← BitVec.xor_assoc (fedSeq y g n), BitVec.xor_comm (fedSeq y g n) (f n), BitVec.xor_assoc, ← BitVec.xor_assoc, ← BitVec.xor_assoc]
theorem F_zero : F 0#32 = 0#32 := by decide
theorem fedN_zero (n : Nat) : fedN n 0#32 = 0#32 := by
  induction n with
  | zero => rfl
  | succ n ih => rw [fedN_succ, ih, F_zero]
/-- no bit yet, then those of a word -/
theorem fedSeq_word (f : Nat → W32) (b : Nat) (v : W32) (h0 : ∀ i, i < b → f i = 0#32) (hv : ∀ k, f (b + k) = (v >>> k) &&& 1#32) (k : Nat) :
    fedSeq 0#32 f (b + k) = fedN k v ^^^ (v >>> k) := by
  have hz : ∀ n, n ≤ b → fedSeq 0#32 f n = 0#32 := by
    intro n
    induction n with
    | zero => intro _; rfl
    | succ n ih => intro hn; rw [fedSeq, ih (by omega), h0 n (by omega), BitVec.xor_zero, F_zero]
  induction k with
  | zero => rw [Nat.add_zero, hz b (Nat.le_refl _)]; simp [fedN]
  | succ k ih =>
    rw [← Nat.add_assoc, fedSeq, ih, hv k, BitVec.xor_assoc, F_xor, fedN_succ]
    congr 1
    rw [F_even]
    · rw [BitVec.ushiftRight_xor_distrib, BitVec.shiftRight_add]
      have : (v >>> k &&& 1#32) >>> 1 = 0#32 := by
        rw [lsb_or]
        cases (v >>> k).getLsbD 0 <;> decide
      rw [this, BitVec.xor_zero]
    · rw [BitVec.getLsbD_xor, BitVec.getLsbD_and]
      simp
theorem fedN_ne {n : Nat} {v : W32} (h : v ≠ 0#32) : fedN n v ≠ 0#32 := fun e => h (fedN_inj n (e.trans (fedN_zero n).symm))

/-! ### What is spoilt, bit by bit -/
theorem pow_bit : ∀ r : Nat, r < 8 → ∀ q : Nat, q < 8 → (((1#8 <<< r).setWidth 32 >>> q) &&& 1#32 : W32) = if q = r then 1#32 else 0#32 := by decide
theorem bitAt_flip (bs : List B8) (N n : Nat) (hN : N < 8 * bs.length) : bitAt (flipB bs N) n = bitAt bs n ^^^ (if n = N then 1#32 else 0#32) := by
  unfold bitAt flipB
  by_cases h : n / 8 = N / 8
  · have hb : byteAt (bs.set (N / 8) (byteAt bs (N / 8) ^^^ 1#8 <<< (N % 8))) (n / 8) = byteAt bs (n / 8) ^^^ 1#8 <<< (N % 8) := by
      rw [h]
      simp [byteAt, List.getD_eq_getElem?_getD, show N / 8 < bs.length by omega]
    rw [hb, BitVec.setWidth_xor, BitVec.ushiftRight_xor_distrib, xor_and, pow_bit _ (Nat.mod_lt _ (by omega)) _ (Nat.mod_lt _ (by omega))]
    congr 1
    by_cases e : n = N
    · rw [if_pos e, if_pos (by rw [e])]
    · rw [if_neg e, if_neg (by omega)]
  · have hb : byteAt (bs.set (N / 8) (byteAt bs (N / 8) ^^^ 1#8 <<< (N % 8))) (n / 8) = byteAt bs (n / 8) := by
      simp [byteAt, List.getD_eq_getElem?_getD, List.getElem?_set, Ne.symm h]
    rw [hb, if_neg (fun e => h (by rw [e])), BitVec.xor_zero]
/-- what is turned at bit n, k bits being over -/
def turnAt (m : W32) (bit len k n : Nat) : W32 := if bit ≤ n ∧ n < bit + k ∧ isB m bit len (n - bit) = true then 1#32 else 0#32
theorem bitAt_spoil (bs : List B8) (bit : Nat) (m : W32) (k n : Nat) : bitAt (spoilK bs bit m k) n = bitAt bs n ^^^ turnAt m bit bs.length k n := by
  induction k with
  | zero => rw [spoilK, turnAt, if_neg (by omega), BitVec.xor_zero]
  | succ k ih =>
    rw [spoilK]
    by_cases hi : isB m bit bs.length k = true
    · rw [if_pos hi]
      have hN : bit + k < 8 * bs.length := by simp only [isB, Bool.and_eq_true, decide_eq_true_eq] at hi; exact hi.2
      rw [bitAt_flip _ _ _ (by rw [spoilK_length]; exact hN), ih, BitVec.xor_assoc]
      congr 1
      unfold turnAt
      by_cases e : n = bit + k
      · subst e
        rw [if_neg (by omega), if_pos rfl, if_pos ⟨by omega, by omega, by rw [show bit + k - bit = k by omega]; exact hi⟩]
        decide
      · rw [if_neg e, BitVec.xor_zero]
        by_cases h : bit ≤ n ∧ n < bit + k ∧ isB m bit bs.length (n - bit) = true
        · rw [if_pos h, if_pos ⟨h.1, by omega, h.2.2⟩]
        · rw [if_neg h, if_neg (fun h2 => h ⟨h2.1, by omega, h2.2.2⟩)]
    · rw [if_neg hi, ih]
      congr 1
      unfold turnAt
      by_cases h : bit ≤ n ∧ n < bit + k ∧ isB m bit bs.length (n - bit) = true
      · rw [if_pos h, if_pos ⟨h.1, by omega, h.2.2⟩]
      · rw [if_neg h, if_neg]
        intro h2
        by_cases e : n = bit + k
        · apply hi
          have := h2.2.2
          rwa [e, show bit + k - bit = k by omega] at this
        · exact h ⟨h2.1, by omega, h2.2.2⟩
theorem byte_bits {b c : B8} (h : ∀ r, r < 8 → ((b.setWidth 32 >>> r) &&& 1#32 : W32) = (c.setWidth 32 >>> r) &&& 1#32) : b = c := by
  apply BitVec.eq_of_getLsbD_eq
  intro i hi
  have h1 := h i hi
  rw [lsb_or, lsb_or, BitVec.getLsbD_ushiftRight, BitVec.getLsbD_ushiftRight, getLsbD_set, getLsbD_set, Nat.add_zero] at h1
  revert h1
  generalize b.getLsbD i = p
  generalize c.getLsbD i = q
  revert p q
  decide
theorem bits_ext {a b : List B8} (hl : a.length = b.length) (h : ∀ n, n < 8 * a.length → bitAt a n = bitAt b n) : a = b := by
  apply List.ext_getElem hl
  intro i h1 h2
  have hb : byteAt a i = byteAt b i := byte_bits (fun r hr => by
    have := h (8 * i + r) (by omega)
    unfold bitAt at this
    rwa [show (8 * i + r) / 8 = i by omega, show (8 * i + r) % 8 = r by omega] at this)
  simpa [byteAt, List.getD_eq_getElem?_getD, h1, h2] using hb
theorem spoil_twice (bs : List B8) (bit : Nat) (m : W32) (k : Nat) : spoilK (spoilK bs bit m k) bit m k = bs := by
  apply bits_ext (by rw [spoilK_length, spoilK_length])
  intro n _
  rw [bitAt_spoil, bitAt_spoil, spoilK_length, BitVec.xor_assoc, BitVec.xor_self, BitVec.xor_zero]
theorem spoilS_len (a b : List B8) (bit : Nat) (m : W32) (k : Nat) (h : a.length = b.length) : spoilS a bit m k = spoilS b bit m k := by
  induction k with
  | zero => rfl
  | succ k ih => rw [spoilS, spoilS, ih, h]
theorem spoilS_iff (bs : List B8) (bit : Nat) (m : W32) (k : Nat) : spoilS bs bit m k = true ↔ ∃ j, j < k ∧ isB m bit bs.length j = true := by
  induction k with
  | zero => simp [spoilS]
  | succ k ih =>
    rw [spoilS]
    by_cases h : isB m bit bs.length k = true
    · rw [if_pos h]; exact ⟨fun _ => ⟨k, by omega, h⟩, fun _ => rfl⟩
    · rw [if_neg h, ih]
      constructor
      · rintro ⟨j, hj, hb⟩; exact ⟨j, by omega, hb⟩
      · rintro ⟨j, hj, hb⟩
        by_cases e : j = k
        · subst e; exact absurd hb h
        · exact ⟨j, by omega, hb⟩
/-- the word of the bits that are turned -/
def turnW (m : W32) (bit len : Nat) : W32 := BitVec.ofNat 32 (m.toNat % 2 ^ (8 * len - bit))
theorem turnW_bit (m : W32) (bit len k : Nat) : (turnW m bit len).getLsbD k = (m.getLsbD k && decide (k < 8 * len - bit)) := by
  unfold turnW
  rw [BitVec.getLsbD_ofNat, Nat.testBit_mod_two_pow]
  show _ = (m.toNat.testBit k && _)
  by_cases h : k < 32
  · simp [h, Bool.and_comm]
  · have : m.toNat.testBit k = false := BitVec.getLsbD_of_ge m k (by omega)
    rw [this]; simp
theorem turnAt_word (m : W32) (bit len k : Nat) (hb : bit < 8 * len) : turnAt m bit len 32 (bit + k) = (turnW m bit len >>> k) &&& 1#32 := by
  rw [lsb_or, BitVec.getLsbD_ushiftRight, Nat.add_zero, turnW_bit]
  unfold turnAt isB
  rw [show bit + k - bit = k by omega, lsb_or, BitVec.getLsbD_ushiftRight, Nat.add_zero]
  by_cases hk : k < 32
  · cases hm : m.getLsbD k
    · simp
    · by_cases h : bit + k < 8 * len
      · rw [if_pos ⟨by omega, by omega, by simp [h]⟩, if_pos (by simp; omega)]
      · rw [if_neg (fun h2 => h (by simpa using h2.2.2)), if_neg (by simp; omega)]
  · rw [if_neg (by omega), BitVec.getLsbD_of_ge m k (by omega)]
    simp
theorem turnW_ne {m : W32} {bit : Nat} {bs : List B8} (h : spoilS bs bit m 32 = true) : turnW m bit bs.length ≠ 0#32 := by
  obtain ⟨j, hj, hb⟩ := (spoilS_iff bs bit m 32).1 h
  intro e
  have h1 := turnW_bit m bit bs.length j
  rw [e] at h1
  simp only [isB, Bool.and_eq_true, decide_eq_true_eq] at hb
  rw [lsb_or, BitVec.getLsbD_ushiftRight, Nat.add_zero] at hb
  have h2 : m.getLsbD j = true := by
    cases hm : m.getLsbD j
    · rw [hm] at hb; exact absurd hb.1 (by decide)
    · rfl
  rw [h2] at h1
  simp at h1
  omega
theorem feed_spoilt (x : W32) (bs : List B8) (bit : Nat) (m : W32) (hb : bit < 8 * bs.length) (h : spoilS bs bit m 32 = true) : feedAll x (spoilK bs bit m 32) ≠ feedAll x bs := by
  have e1 : feedAll x (spoilK bs bit m 32) = fedSeq x (bitAt (spoilK bs bit m 32)) (8 * bs.length) := by
    rw [← fedBits_seq, ← spoilK_length bs bit m 32, fedBits_eq _ _ _ (Nat.le_refl _), List.take_length]
  have e2 : feedAll x bs = fedSeq x (bitAt bs) (8 * bs.length) := by
    rw [← fedBits_seq, fedBits_eq _ _ _ (Nat.le_refl _), List.take_length]
  have e3 : fedSeq x (bitAt (spoilK bs bit m 32)) (8 * bs.length) = fedSeq x (bitAt bs) (8 * bs.length) ^^^ fedSeq 0#32 (turnAt m bit bs.length 32) (8 * bs.length) := by
    rw [← fedSeq_xor, BitVec.xor_zero]
    congr 1
    funext n
    exact bitAt_spoil ..
  have e4 : fedSeq 0#32 (turnAt m bit bs.length 32) (8 * bs.length) = fedN (8 * bs.length - bit) (turnW m bit bs.length) := by
    have := fedSeq_word (turnAt m bit bs.length 32) bit (turnW m bit bs.length) (fun i hi => by rw [turnAt, if_neg (by omega)]) (fun k => turnAt_word m bit bs.length k hb) (8 * bs.length - bit)
    rw [show bit + (8 * bs.length - bit) = 8 * bs.length by omega] at this
    rw [this]
    have hz : turnW m bit bs.length >>> (8 * bs.length - bit) = 0#32 := by
      apply BitVec.eq_of_getLsbD_eq
      intro i _
      rw [BitVec.getLsbD_ushiftRight, turnW_bit]
      simp
    rw [hz, BitVec.xor_zero]
  rw [e1, e2, e3, e4]
  intro e
  have := congrArg (fedSeq x (bitAt bs) (8 * bs.length) ^^^ ·) e
  simp only [← BitVec.xor_assoc, BitVec.xor_self, BitVec.zero_xor] at this
  exact fedN_ne (turnW_ne h) this
/-- Sealed: the register behind all is one word. -/
theorem feed_sealed (bs : List B8) : feedAll (~~~0#32) (sealW bs) = fedN 32 (BitVec.allOnes 32) := by
  rw [sealW, feedAll_append, feed_four]
  congr 1
  show _ ^^^ (moreW 0#32 bs) = _
  unfold moreW
  apply BitVec.eq_of_getLsbD_eq
  intro i hi
  rw [BitVec.getLsbD_xor, BitVec.getLsbD_not, BitVec.getLsbD_allOnes]
  simp [hi]
theorem opened_iff (bs : List B8) (h : 4 ≤ bs.length) : openedW bs ≠ none → feedAll (~~~0#32) bs = fedN 32 (BitVec.allOnes 32) := by
  intro hn
  unfold openedW at hn
  rw [if_neg (by omega)] at hn
  by_cases he : bs.drop (bs.length - 4) = fourB (moreW 0 (bs.take (bs.length - 4)))
  · rw [← feed_sealed (bs.take (bs.length - 4)), sealW, ← he, List.take_append_drop]
  · rw [if_neg he] at hn
    exact absurd rfl hn
theorem sealW_length (bs : List B8) : (sealW bs).length = bs.length + 4 := by simp [sealW, fourB]
theorem opened_sealed (bs : List B8) : openedW (sealW bs) = some bs := by
  have hl := sealW_length bs
  unfold openedW
  rw [if_neg (by omega), hl, show bs.length + 4 - 4 = bs.length by omega]
  have h1 : (sealW bs).take bs.length = bs := by simp [sealW]
  have h2 : (sealW bs).drop bs.length = fourB (moreW 0 bs) := by simp [sealW]
  rw [h1, h2, if_pos rfl]
theorem opened_spoilt (x : List B8) (bit : Nat) (m : W32) (hb : bit < 8 * (sealW x).length) (h : spoilS (sealW x) bit m 32 = true) : openedW (spoilK (sealW x) bit m 32) = none := by
  have hl := sealW_length x
  cases ho : openedW (spoilK (sealW x) bit m 32) with
  | none => rfl
  | some l =>
    have h1 := opened_iff (spoilK (sealW x) bit m 32) (by rw [spoilK_length]; omega) (by rw [ho]; exact fun e => by cases e)
    rw [← feed_sealed x] at h1
    exact absurd h1 (feed_spoilt _ _ _ _ hb h)
theorem spoil_none (bs : List B8) (bit : Nat) (m : W32) (h : spoilS bs bit m 32 = false) : m = 0#32 ∨ 8 * bs.length < bit + 32 := by
  by_cases h2 : 8 * bs.length < bit + 32
  · exact .inr h2
  · refine .inl ?_
    apply BitVec.eq_of_getLsbD_eq
    intro i hi
    cases hm : m.getLsbD i
    · simp
    · exfalso
      have : spoilS bs bit m 32 = true := (spoilS_iff bs bit m 32).2 ⟨i, hi, by
        unfold isB
        rw [lsb_or, BitVec.getLsbD_ushiftRight, Nat.add_zero, hm]
        simp
        omega⟩
      rw [h] at this
      cases this
end Go.Proofs.Ytekbjgnlaompbaa
