/- The law of seals: contracts in one form. -/
import Derived.Test.YtekbjgnlaompbaaHa
namespace Go.Proofs.Ytekbjgnlaompbaa
open Go.RowKit
set_option linter.unusedSimpArgs false
set_option linter.unusedVariables false
theorem openG (v : Value) (bs gl : List B8) (K : Bool) (E : Int) (w : World) (hK : (openedW bs).isSome = K) (hg : (openedW bs).getD [] = gl) (hE : E = if K then 0 else 120) (hb : Bys w v bs) (hl : bs.length ≤ 1099511627776) :
    Calls Try.prog 16 #[v] w fun e w' => ∃ v', e = .returned (.tuple #[v', .int .i64 E]) ∧ Own8 w' w.heap.size v' gl ∧ Below w.heap.size w w' := by
  refine (open_all v bs w hb hl).mono ?_
  rintro e w' ⟨h1, h2⟩
  subst hK hg hE
  cases ho : openedW bs with
  | none =>
    rw [ho] at h2
    exact ⟨_, h2, Own8.nil _ _, h1⟩
  | some l =>
    rw [ho] at h2
    obtain ⟨v', e1, h3⟩ := h2
    exact ⟨v', e1, h3, h1⟩
theorem ropenG (v : Value) (bs gl : List B8) (K : Bool) (w : World) (hK : (openedW bs).isSome = K) (hg : (openedW bs).getD [] = gl) (hb : Bys w v bs) (hl : bs.length ≤ 1099511627776) :
    Calls Try.prog 17 #[v] w fun e w' => ∃ v', e = .returned (.tuple #[v', .bool K]) ∧ Own8 w' w.heap.size v' gl ∧ Below w.heap.size w w' := by
  refine (ropen_all v bs w hb hl).mono ?_
  rintro e w' ⟨h1, h2⟩
  subst hK hg
  rw [openedR_eq] at h2
  cases ho : openedW bs with
  | none =>
    rw [ho] at h2
    exact ⟨_, h2, Own8.nil _ _, h1⟩
  | some l =>
    rw [ho] at h2
    obtain ⟨v', e1, h3⟩ := h2
    exact ⟨v', e1, h3, h1⟩
/-- what is spoilt, at any number -/
def spoilI (bs : List B8) (b : Int) (m : W32) : Option (List B8) := if 0 ≤ b ∧ b < (8 * bs.length : Nat) then spoilW bs b.toNat m else none
theorem spoilG (v : Value) (bs gl : List B8) (b : Int) (m : W32) (K : Bool) (E : Int) (w : World) (hK : (spoilI bs b m).isSome = K) (hg : (spoilI bs b m).getD [] = gl) (hE : E = if K then 0 else 2) (hb : Bys w v bs) (hl : bs.length ≤ 1099511627776) :
    Calls Try.prog 18 #[v, .int .i64 b, .int .u32 (nb m)] w fun e w' => ∃ v', e = .returned (.tuple #[v', .int .i64 E]) ∧ Own8 w' w.heap.size v' gl ∧ Below w.heap.size w w' := by
  subst hK hg hE
  by_cases h : 0 ≤ b ∧ b < (8 * bs.length : Nat)
  · have hs : spoilI bs b m = spoilW bs b.toNat m := by rw [spoilI, if_pos h]
    obtain ⟨n, rfl⟩ := Int.eq_ofNat_of_zero_le h.1
    refine (spoil_calls0 v bs n m w hb hl (by omega)).mono ?_
    rintro e w' ⟨h1, h2⟩
    rw [hs]
    rw [Int.toNat_natCast]
    cases ho : spoilW bs n m with
    | none =>
      rw [ho] at h2
      exact ⟨_, h2, Own8.nil _ _, h1⟩
    | some l =>
      rw [ho] at h2
      obtain ⟨v', e1, h3⟩ := h2
      exact ⟨v', e1, h3, h1⟩
  · have hs : spoilI bs b m = none := by rw [spoilI, if_neg h]
    rw [hs]
    by_cases h0 : b < 0
    · refine (spoil_neg v bs b m w hb h0).mono ?_
      rintro e w' ⟨rfl, h1⟩
      exact ⟨_, rfl, Own8.nil _ _, h1⟩
    · obtain ⟨n, rfl⟩ := Int.eq_ofNat_of_zero_le (Int.not_lt.1 h0)
      refine (spoil_far v bs n m w hb hl (by omega)).mono ?_
      rintro e w' ⟨rfl, h1⟩
      exact ⟨_, rfl, Own8.nil _ _, h1⟩
theorem rspoilG (v : Value) (bs gl : List B8) (b : Int) (m : W32) (K : Bool) (w : World) (hK : (spoilI bs b m).isSome = K) (hg : (spoilI bs b m).getD [] = gl) (hb : Bys w v bs) (hl : bs.length ≤ 1099511627776) :
    Calls Try.prog 19 #[v, .int .i64 b, .int .u32 (nb m)] w fun e w' => ∃ v', e = .returned (.tuple #[v', .bool K]) ∧ (K = true → Bys w' v' gl) ∧ Below w.heap.size w w' := by
  subst hK hg
  by_cases h : 0 ≤ b ∧ b < (8 * bs.length : Nat)
  · have hs : spoilI bs b m = spoilW bs b.toNat m := by rw [spoilI, if_pos h]
    obtain ⟨n, rfl⟩ := Int.eq_ofNat_of_zero_le h.1
    refine (rspoil_calls v bs n m w hb hl (by omega)).mono ?_
    rintro e w' ⟨v', rfl, h2, h1⟩
    rw [hs]
    rw [Int.toNat_natCast]
    by_cases hs2 : spoilS bs n m 32 = true
    · rw [spoilW, if_pos hs2, hs2]
      exact ⟨v', rfl, fun _ => h2.bys, h1⟩
    · have hs3 : spoilS bs n m 32 = false := by simpa using hs2
      rw [spoilW, if_neg hs2, hs3]
      exact ⟨v', rfl, (fun h => by cases h), h1⟩
  · have hs : spoilI bs b m = none := by rw [spoilI, if_neg h]
    rw [hs]
    refine (rspoil_far v bs b m w hb hl (by omega)).mono ?_
    rintro e w' ⟨rfl, rfl⟩
    exact ⟨_, rfl, (fun h => by cases h), Below.refl _ _⟩
theorem inc_bn (x : B8) : IntKind.u8.wrap (bn x + 1) = bn (x + 1#8) := by
  unfold bn
  rw [BitVec.toNat_add]
  simp only [IntKind.wrap, IntKind.bits, IntKind.signed]
  simp
end Go.Proofs.Ytekbjgnlaompbaa
