/- What the reference spoils. The law of seals: contracts in one form. -/
import Derived.Test.YtnhmhnejglpijaaMc
import Derived.Deep.DeepCutAuto
import Derived.Deep.CutBlock
namespace Go.Proofs.Ytnhmhnejglpijaa
open Go.RowKit
set_option maxRecDepth 100000
set_option linter.unusedSimpArgs false
theorem flip_all : ∀ r : Fin 8, ∀ b : Fin 256, (if b.val / 2 ^ r.val % 2 = 1 then b.val - 2 ^ r.val else b.val + 2 ^ r.val) = b.val ^^^ (2 ^ r.val) := by decide +kernel
theorem flip_nat (b : B8) (r : Nat) (hr : r < 8) : (if b.toNat / 2 ^ r % 2 = 1 then b.toNat - 2 ^ r else b.toNat + 2 ^ r) = (b ^^^ (1#8 <<< r)).toNat := by
  have h := flip_all ⟨r, hr⟩ ⟨b.toNat, b.isLt⟩
  simp only at h
  rw [h, BitVec.toNat_xor]
  congr 1
  have : ∀ r : Fin 8, (1#8 <<< r.val).toNat = 2 ^ r.val := by decide
  exact (this ⟨r, hr⟩).symm
theorem bit_nat (b : B8) (r : Nat) : ((b.setWidth 32 >>> r) &&& 1#32 : W32) = 1#32 ↔ b.toNat / 2 ^ r % 2 = 1 := by
  have h1 : (((b.setWidth 32 >>> r) &&& 1#32 : W32)).toNat = b.toNat / 2 ^ r % 2 := by
    rw [BitVec.toNat_and, show (1#32).toNat = 1 from rfl, Nat.and_one_is_mod, BitVec.toNat_ushiftRight, BitVec.toNat_setWidth, Nat.shiftRight_eq_div_pow]
    rw [Nat.mod_eq_of_lt (a := b.toNat) (b := 2 ^ 32) (by have := b.isLt; omega)]
  constructor
  · intro h
    rw [← h1, h]
    rfl
  · intro h
    apply BitVec.eq_of_toNat_eq
    rw [h1, h]
    rfl
theorem flip_sub (b : B8) (r : Nat) (hr : r < 8) (h : ((b.setWidth 32 >>> r) &&& 1#32 : W32) = 1#32) : IntKind.u8.wrap (bn b - ((2 ^ r : Nat) : Int)) = bn (b ^^^ (1#8 <<< r)) := by
  have h2 := (bit_nat b r).1 h
  have h3 := flip_nat b r hr
  rw [if_pos h2] at h3
  have h4 : 2 ^ r ≤ b.toNat := by
    rcases Nat.lt_or_ge b.toNat (2 ^ r) with h5 | h5
    · rw [Nat.div_eq_of_lt h5] at h2
      cases h2
    · exact h5
  have h5 := b.isLt
  unfold bn
  rw [← h3]
  simp only [IntKind.wrap, IntKind.bits, IntKind.signed]
  generalize 2 ^ r = p at *
  simp
  omega
theorem flip_add (b : B8) (r : Nat) (hr : r < 8) (h : ((b.setWidth 32 >>> r) &&& 1#32 : W32) ≠ 1#32) : IntKind.u8.wrap (bn b + ((2 ^ r : Nat) : Int)) = bn (b ^^^ (1#8 <<< r)) := by
  have h2 := fun k => h ((bit_nat b r).2 k)
  have h3 := flip_nat b r hr
  rw [if_neg h2] at h3
  have h5 := (b ^^^ (1#8 <<< r)).isLt
  unfold bn
  rw [← h3]
  rw [← h3] at h5
  simp only [IntKind.wrap, IntKind.bits, IntKind.signed]
  generalize 2 ^ r = p at *
  simp
  omega
/-- the reference's state at bit k -/
structure RefR (w : World) (bs : List B8) (bit : Nat) (m : W32) (k : Nat) (v8 : Value) (wr : World) : Prop where
  below : Below w.heap.size w wr
  out : Own8 wr w.heap.size v8 (spoilK bs bit m k)
theorem own8_flip {w : World} {B g n cap : Nat} {bs : List B8} (h : Own8 w B (.slice (some ⟨g, 0, none⟩) n cap) bs) (hn : n = bs.length) (N : Nat) (hN : N < 8 * bs.length) :
    Own8 (w.setCell ⟨g, N / 8, none⟩ (.int .u8 (bn (byteAt bs (N / 8) ^^^ (1#8 <<< (N % 8)))))) B (.slice (some ⟨g, 0, none⟩) n cap) (flipB bs N) := (own8_set h hn (N / 8) (by omega) _).2.2
theorem pow_step (t : Nat) (ht : t < 7) : IntKind.u8.wrap (2 * ((2 ^ t : Nat) : Int)) = ((2 ^ (t + 1) : Nat) : Int) := by
  have : ∀ t : Fin 7, IntKind.u8.wrap (2 * ((2 ^ t.val : Nat) : Int)) = ((2 ^ (t.val + 1) : Nat) : Int) := by decide
  exact this ⟨t, ht⟩
theorem rspoil_far (v : Value) (bs : List B8) (bit : Int) (m : W32) (w : World) (hb : Bys w v bs) (hl : bs.length ≤ 1099511627776) (hn : bit < 0 ∨ (8 * bs.length : Nat) ≤ bit) :
    Calls Try.prog 72 #[v, .int .i64 bit, .int .u32 (nb m)] w fun e w' => e = .returned (.tuple #[.slice none 0 0, .bool false]) ∧ w = w' := by
  obtain ⟨A, cap, rfl, hc1, hc2, hc3, hc4⟩ := hb
  clear hc3 hc4
  unfold maxLen at hc2
  rcases hn with hn | hn
  · have hd : decide (bit < 0) = true := decide_eq_true hn
    go_enter Try.func72, Try.ntmps72
    go_wp2
    go_ret2
    exact ⟨rfl, rfl⟩
  · have hd : decide (bit < 0) = false := decide_eq_false (by omega)
    have hd2 : decide (bit ≥ 8 * (bs.length : Int)) = true := decide_eq_true (by omega)
    go_enter Try.func72, Try.ntmps72
    go_wp2
    go_ret2
    exact ⟨rfl, rfl⟩
set_option maxRecDepth 100000 in
set_option maxHeartbeats 4000000 in
theorem rspoil_calls (v : Value) (bs : List B8) (bit : Nat) (m : W32) (w : World) (hb : Bys w v bs) (hl : bs.length ≤ 1099511627776) (hn : bit < 8 * bs.length) :
    Calls Try.prog 72 #[v, .int .i64 bit, .int .u32 (nb m)] w fun e w' => ∃ v', e = .returned (.tuple #[v', .bool (spoilS bs bit m 32)]) ∧ Own8 w' w.heap.size v' (spoilK bs bit m 32) ∧ Below w.heap.size w w' := by
  have hb' := hb
  obtain ⟨A, cap, rfl, hc1, hc2, hc3, hc4⟩ := hb'
  have HB := Lib.hid hb
  clear hb hc3 hc4
  unfold maxLen at hc2
  have hd1 : decide ((bit : Int) < 0) = false := by rw [decide_eq_false_iff_not]; omega
  have hd2 : decide ((bit : Int) ≥ 8 * (bs.length : Int)) = false := by rw [decide_eq_false_iff_not]; omega
  have HLL := Lib.hid hl
  go_enter Try.func72, Try.ntmps72
  go_wp2_with (first
    | (at_builtin; refine wpList_app8 rfl (.tmp 22) (.tmp 23) rfl w.heap.size _ _ [] bs rfl (own8_empty w) rfl (HB.out.below (below_al (Below.refl _ _) _)) (by simp; omega) (by simp) ?_; intro v1 w1 h1 h2 _; have hbw : Below w.heap.size w w1 := (below_al (Below.refl _ w) _).grown h2 (by simp) (fun k e => by have h : w.heap.size = k := (by simpa [Act.eval, Value.ownBlock] using e); omega); clear h2))
  rw [List.nil_append] at h1
  obtain ⟨g, cap8, rfl, hg1, hg2, hc8, hc9⟩ := own8_some h1 (by omega)
  have hR : RefR w bs bit m 0 (.slice (some ⟨g, 0, none⟩) bs.length cap8) w1 := ⟨hbw, h1⟩
  have HR0 := Lib.hid hR
  clear hR h1 hbw hd1 hd2
  go_loopw [25, 9, 2, 10, 11, 12] (fun i o mm _ _ _ wr => ∃ k : Nat, k ≤ 32 ∧ i = .int .i64 k ∧ o = .bool (spoilS bs bit m k) ∧ mm = .int .u32 (nb (m >>> k)) ∧ RefR w bs bit m k (.slice (some ⟨g, 0, none⟩) bs.length cap8) wr) (fun i _ _ _ _ _ _ => 32 - (intOf i).toNat)
  case atStart => exact ⟨0, by omega, rfl, rfl, by simp, HR0.out⟩
  case round =>
    obtain ⟨k, hk, rfl, rfl, rfl, hR⟩ := hrel
    have HR := Lib.hid hR
    clear hR
    by_cases hlt : k < 32
    · have hd : decide ((k : Int) < 32) = true := by simp; omega
      have hm1 : nb (m >>> k) % (2 : Int) = nb ((m >>> k) &&& 1#32) := nb_mod2 _
      have hm2 : nb (m >>> k) / (2 : Int) = nb (m >>> (k + 1)) := nb_shr_succ m k
      have hnn := nb_range (m >>> k)
      generalize hso : spoilS bs bit m k = so
      have HSO := Lib.hid hso
      clear hso
      obtain ⟨N, hN⟩ : ∃ N, N = bit + k := ⟨_, rfl⟩
      have e1 : IntKind.i64.wrap ((bit : Int) + (k : Int)) = (N : Int) := by rw [IntKind.wrap_i64]; omega
      have e1' : (bit : Int) + (k : Int) = (N : Int) := by omega
      by_cases hi : isB m bit bs.length k = true
      · have hi' := hi
        simp only [isB, Bool.and_eq_true, decide_eq_true_eq] at hi'
        obtain ⟨hi1, hi2⟩ := hi'
        rw [hi1] at hm1
        have hm3 : nb (m >>> k) % (2 : Int) = 1 := hm1
        have hNl : decide ((N : Int) < 8 * (bs.length : Int)) = true := decide_eq_true (by omega)
        have hNb : N < 8 * bs.length := by omega
        have hss : spoilS bs bit m (k + 1) = true := by rw [spoilS, if_pos hi]
        have hsk : spoilK bs bit m (k + 1) = flipB (spoilK bs bit m k) N := by rw [spoilK, if_pos hi, hN]
        have hcl : (spoilK bs bit m k).length = bs.length := spoilK_length ..
        generalize hcur : spoilK bs bit m k = cur at hsk hcl
        have hout := HR.out.out
        rw [hcur] at hout
        obtain ⟨c9, f9, _⟩ := own8_set hout hcl.symm (N / 8) (by omega) 0#8
        have hfl := own8_flip hout hcl.symm N (by omega)
        have HSS := Lib.hid hss
        have HSK := Lib.hid hsk
        have HOUT := Lib.hid hout
        have HFL := Lib.hid hfl
        have hcl2 : Hid (cur.length ≤ 1099511627776) := Lib.hid (by omega)
        have hcl3 : Hid (N < 8 * cur.length) := Lib.hid (by omega)
        have hr8 : N % 8 < 8 := Nat.mod_lt _ (by omega)
        have hbit : bitAt cur N = ((byteAt cur (N / 8)).setWidth 32 >>> (N % 8)) &&& 1#32 := rfl
        have hsb := flip_sub (byteAt cur (N / 8)) (N % 8) hr8
        have had := flip_add (byteAt cur (N / 8)) (N % 8) hr8
        rw [← hbit] at hsb had
        have HSB := Lib.hid hsb
        have HAD := Lib.hid had
        have i0 : (0 : Int) ≤ ((N / 8 : Nat) : Int) := by omega
        have i1 : ((N / 8 : Nat) : Int) < (bs.length : Int) := by omega
        have e3 : Int.tmod (N : Int) 8 = ((N % 8 : Nat) : Int) := by rw [Int.tmod_eq_emod_of_nonneg (by omega)]; omega
        have e2 : IntKind.i64.wrap (Int.tdiv (N : Int) 8) = ((N / 8 : Nat) : Int) := by rw [IntKind.wrap_i64, Int.tdiv_eq_ediv_of_nonneg (by omega)]; omega
        clear hss hsk hcl hcur hout hfl hbit hsb had hi hi1 hi2 hN hNb hm1
        go_wp2
        go_loopw [43, 12] (fun i y wq => ∃ t : Nat, t ≤ N % 8 ∧ i = .int .i64 t ∧ y = .int .u8 ((2 ^ t : Nat) : Int) ∧ wq = wr) (fun i _ _ => N % 8 - (intOf i).toNat)
        case atStart => exact ⟨0, by omega, rfl, rfl, rfl⟩
        case round =>
          obtain ⟨t, ht, rfl, rfl, rfl⟩ := hrel
          by_cases hlt2 : t < N % 8
          · have hd3 : decide ((t : Int) < ((N % 8 : Nat) : Int)) = true := decide_eq_true (by omega)
            have hd4 : (t : Int) < (N : Int) % 8 := by omega
            have hp := pow_step t (by omega)
            generalize hp1 : 2 ^ t = p1 at hp
            generalize hp2 : 2 ^ (t + 1) = p2 at hp
            have HP2 := Lib.hid hp2
            clear hp1 hp2
            go_wp2
            go_roundw
            case rel => exact ⟨t + 1, by omega, by go_num, by rw [HP2.out], trivial⟩
            case measure => simp [intOf]; omega
          · have hd4 : ¬ ((t : Int) < (N : Int) % 8) := by omega
            have htN : t = N % 8 := by omega
            have hsb := HSB.out
            have had := HAD.out
            rw [← htN] at hsb had
            generalize hp1 : 2 ^ t = p1 at hsb had
            generalize hq : bn (byteAt cur (N / 8) ^^^ 1#8 <<< t) = q at hsb had
            have HQ : Hid (bn (byteAt cur (N / 8) ^^^ 1#8 <<< (N % 8)) = q) := Lib.hid (by rw [← htN]; exact hq)
            generalize hz : nb (bitAt cur N) = z
            have HZ := Lib.hid hz
            have hzi : bitAt cur N = 1#32 ↔ z = 1 := by
              rw [← hz]
              exact ⟨fun h => by rw [h]; rfl, fun h => nb_inj h⟩
            clear hp1 hq hz htN
            by_cases hbt : bitAt cur N = 1#32
            · have hx : (z == (1 : Int)) = true := by simp [hzi.1 hbt]
              have hs1 := hsb hbt
              have hz1 := hzi.1 hbt
              have HZ1 := Lib.hid hz1
              clear hsb had hzi hbt hz1
              go_wp2_with (first
                | (go_at_call 109; (with_reducible refine (rbit_calls _ cur N _ HOUT.out.bys hcl2.out hcl3.out).mono ?_); rintro e w' ⟨rfl, rfl⟩; rw [HZ.out]))
              have hrr : RefR w bs bit m (k + 1) (.slice (some ⟨g, 0, none⟩) bs.length cap8) (wr.setCell ⟨g, N / 8, none⟩ (.int .u8 q)) := by
                refine ⟨HR.out.below.setCell (p := ⟨g, N / 8, none⟩) hg1 _, ?_⟩
                rw [HSK.out, ← HQ.out]
                exact HFL.out
              have HRR := Lib.hid hrr
              clear hrr
              go_roundw
              case rel => exact ⟨k + 1, by omega, by go_num, by rw [HSS.out], rfl, HRR.out⟩
              case measure => simp [intOf]; omega
            · have hx : (z == (1 : Int)) = false := by simpa using fun h => hbt (hzi.2 h)
              have hs1 := had hbt
              clear hsb had hzi hbt
              go_wp2_with (first
                | (go_at_call 109; (with_reducible refine (rbit_calls _ cur N _ HOUT.out.bys hcl2.out hcl3.out).mono ?_); rintro e w' ⟨rfl, rfl⟩; rw [HZ.out]))
              have hrr : RefR w bs bit m (k + 1) (.slice (some ⟨g, 0, none⟩) bs.length cap8) (wr.setCell ⟨g, N / 8, none⟩ (.int .u8 q)) := by
                refine ⟨HR.out.below.setCell (p := ⟨g, N / 8, none⟩) hg1 _, ?_⟩
                rw [HSK.out, ← HQ.out]
                exact HFL.out
              have HRR := Lib.hid hrr
              clear hrr
              go_roundw
              case rel => exact ⟨k + 1, by omega, by go_num, by rw [HSS.out], rfl, HRR.out⟩
              case measure => simp [intOf]; omega
      · have hss : spoilS bs bit m (k + 1) = so := by rw [spoilS, if_neg hi, HSO.out]
        have hrr : RefR w bs bit m (k + 1) (.slice (some ⟨g, 0, none⟩) bs.length cap8) wr := ⟨HR.out.below, by rw [spoilK, if_neg hi]; exact HR.out.out⟩
        have HSS := Lib.hid hss
        have HRR := Lib.hid hrr
        have hi' := hi
        simp only [isB, Bool.and_eq_true, decide_eq_true_eq] at hi'
        clear hss hrr hi
        by_cases hi1 : (m >>> k) &&& 1#32 = 1#32
        · rw [hi1] at hm1
          have hm3 : nb (m >>> k) % (2 : Int) = 1 := hm1
          have hNl : decide ((N : Int) < 8 * (bs.length : Int)) = false := by
            rw [decide_eq_false_iff_not]
            intro h
            exact hi' ⟨hi1, by omega⟩
          clear hm1 hi1 hi' hN
          go_wp2
          go_roundw
          case rel => exact ⟨k + 1, by omega, by go_num, by rw [HSS.out], rfl, HRR.out⟩
          case measure => simp [intOf]; omega
        · have hm3 : (nb (m >>> k) % (2 : Int) == 1) = false := by
            rw [hm1, beq_eq_false_iff_ne]
            intro h
            exact hi1 (nb_inj (h.trans rfl))
          clear hm1 hi1 hi' hN
          go_wp2
          go_roundw
          case rel => exact ⟨k + 1, by omega, by go_num, by rw [HSS.out], rfl, HRR.out⟩
          case measure => simp [intOf]; omega
    · have hd : decide ((k : Int) < 32) = false := by simp; omega
      have hk2 : k = 32 := by omega
      subst hk2
      go_wp2
      go_ret2
      exact ⟨_, rfl, HR.out.out, HR.out.below⟩
end Go.Proofs.Ytnhmhnejglpijaa
namespace Go.Proofs.Ytnhmhnejglpijaa
open Go.RowKit
set_option maxRecDepth 100000
set_option linter.unusedSimpArgs false
set_option linter.unusedVariables false
theorem openG (v : Value) (bs gl : List B8) (K : Bool) (E : Int) (w : World) (hK : (openedW bs).isSome = K) (hg : (openedW bs).getD [] = gl) (hE : E = if K then 0 else 120) (hb : Bys w v bs) (hl : bs.length ≤ 1099511627776) :
    Calls Try.prog 56 #[v] w fun e w' => ∃ v', e = .returned (.tuple #[v', .int .i64 E]) ∧ Own8 w' w.heap.size v' gl ∧ Below w.heap.size w w' := by
  refine (open_all v bs w hb hl).mono ?_
  rintro e w' ⟨h1, h2⟩
  subst hK hg hE
  cases ho : openedW bs with
  | none =>
    rw [ho] at h2
    exact ⟨_, h2, Own8.nil _ _, h1⟩
  | some l =>
    rw [ho] at h2
    obtain ⟨v', e1, h3⟩ := h2
    exact ⟨v', e1, h3, h1⟩
theorem ropenG (v : Value) (bs gl : List B8) (K : Bool) (w : World) (hK : (openedW bs).isSome = K) (hg : (openedW bs).getD [] = gl) (hb : Bys w v bs) (hl : bs.length ≤ 1099511627776) :
    Calls Try.prog 89 #[v] w fun e w' => ∃ v', e = .returned (.tuple #[v', .bool K]) ∧ Own8 w' w.heap.size v' gl ∧ Below w.heap.size w w' := by
  refine (ropen_all v bs w hb hl).mono ?_
  rintro e w' ⟨h1, h2⟩
  subst hK hg
  rw [openedR_eq] at h2
  cases ho : openedW bs with
  | none =>
    rw [ho] at h2
    exact ⟨_, h2, Own8.nil _ _, h1⟩
  | some l =>
    rw [ho] at h2
    obtain ⟨v', e1, h3⟩ := h2
    exact ⟨v', e1, h3, h1⟩
/-- what is spoilt, at any number -/
def spoilI (bs : List B8) (b : Int) (m : W32) : Option (List B8) := if 0 ≤ b ∧ b < (8 * bs.length : Nat) then spoilW bs b.toNat m else none
theorem spoilG (v : Value) (bs gl : List B8) (b : Int) (m : W32) (K : Bool) (E : Int) (w : World) (hK : (spoilI bs b m).isSome = K) (hg : (spoilI bs b m).getD [] = gl) (hE : E = if K then 0 else 2) (hb : Bys w v bs) (hl : bs.length ≤ 1099511627776) :
    Calls Try.prog 53 #[v, .int .i64 b, .int .u32 (nb m)] w fun e w' => ∃ v', e = .returned (.tuple #[v', .int .i64 E]) ∧ Own8 w' w.heap.size v' gl ∧ Below w.heap.size w w' := by
  subst hK hg hE
  by_cases h : 0 ≤ b ∧ b < (8 * bs.length : Nat)
  · have hs : spoilI bs b m = spoilW bs b.toNat m := by rw [spoilI, if_pos h]
    obtain ⟨n, rfl⟩ := Int.eq_ofNat_of_zero_le h.1
    refine (spoil_calls0 v bs n m w hb hl (by omega)).mono ?_
    rintro e w' ⟨h1, h2⟩
    rw [hs]
    rw [Int.toNat_natCast]
    cases ho : spoilW bs n m with
    | none =>
      rw [ho] at h2
      exact ⟨_, h2, Own8.nil _ _, h1⟩
    | some l =>
      rw [ho] at h2
      obtain ⟨v', e1, h3⟩ := h2
      exact ⟨v', e1, h3, h1⟩
  · have hs : spoilI bs b m = none := by rw [spoilI, if_neg h]
    rw [hs]
    by_cases h0 : b < 0
    · refine (spoil_neg v bs b m w hb h0).mono ?_
      rintro e w' ⟨rfl, h1⟩
      exact ⟨_, rfl, Own8.nil _ _, h1⟩
    · obtain ⟨n, rfl⟩ := Int.eq_ofNat_of_zero_le (Int.not_lt.1 h0)
      refine (spoil_far v bs n m w hb hl (by omega)).mono ?_
      rintro e w' ⟨rfl, h1⟩
      exact ⟨_, rfl, Own8.nil _ _, h1⟩
theorem rspoilG (v : Value) (bs gl : List B8) (b : Int) (m : W32) (K : Bool) (w : World) (hK : (spoilI bs b m).isSome = K) (hg : (spoilI bs b m).getD [] = gl) (hb : Bys w v bs) (hl : bs.length ≤ 1099511627776) :
    Calls Try.prog 72 #[v, .int .i64 b, .int .u32 (nb m)] w fun e w' => ∃ v', e = .returned (.tuple #[v', .bool K]) ∧ (K = true → Bys w' v' gl) ∧ Below w.heap.size w w' := by
  subst hK hg
  by_cases h : 0 ≤ b ∧ b < (8 * bs.length : Nat)
  · have hs : spoilI bs b m = spoilW bs b.toNat m := by rw [spoilI, if_pos h]
    obtain ⟨n, rfl⟩ := Int.eq_ofNat_of_zero_le h.1
    refine (rspoil_calls v bs n m w hb hl (by omega)).mono ?_
    rintro e w' ⟨v', rfl, h2, h1⟩
    rw [hs]
    rw [Int.toNat_natCast]
    by_cases hs2 : spoilS bs n m 32 = true
    · rw [spoilW, if_pos hs2, hs2]
      exact ⟨v', rfl, fun _ => h2.bys, h1⟩
    · have hs3 : spoilS bs n m 32 = false := by simpa using hs2
      rw [spoilW, if_neg hs2, hs3]
      exact ⟨v', rfl, (fun h => by cases h), h1⟩
  · have hs : spoilI bs b m = none := by rw [spoilI, if_neg h]
    rw [hs]
    refine (rspoil_far v bs b m w hb hl (by omega)).mono ?_
    rintro e w' ⟨rfl, rfl⟩
    exact ⟨_, rfl, (fun h => by cases h), Below.refl _ _⟩
theorem inc_bn (x : B8) : IntKind.u8.wrap (bn x + 1) = bn (x + 1#8) := by
  unfold bn
  rw [BitVec.toNat_add]
  simp only [IntKind.wrap, IntKind.bits, IntKind.signed]
  simp
end Go.Proofs.Ytnhmhnejglpijaa
