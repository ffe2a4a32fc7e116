/- The references: words. The references: registers and sums. The references: four bytes, tails, sealed bytes. The references: opened bytes. The law of parts: the walk. -/
import Derived.Test.YtnhmhnejglpijaaCn
import Derived.Deep.AppendLies
namespace Go.Proofs.Ytnhmhnejglpijaa
open Go.RowKit
theorem sub_nb (x : W32) : (4294967295 : Int) - nb x = nb (~~~x) := by
  unfold nb
  rw [BitVec.toNat_not]
  have := x.isLt
  omega
theorem nb_mod32 (x : W32) : nb x % (4294967296 : Int) = nb x := by have := nb_range x; omega
theorem ret_int {k : IntKind} {a b : Int} (h : a = b) : Ending.returned (.int k a) = .returned (.int k b) := by rw [h]
section
attribute [local go_sem] sub_nb nb_mod32
theorem turned_calls (x : W32) (w : World) : Calls Try.prog 138 #[.int .u32 (nb x)] w fun e w' => e = .returned (.int .u32 (nb (~~~x))) ∧ w = w' := by
  have h0 := nb_range x
  go_enter Try.func138, Try.ntmps138
  go_wp2
  go_ret
  exact ⟨ret_int (nb_mod32 _), rfl⟩
end
theorem xor_step (a b k : Nat) (o p : Nat) (ho : o = (a ^^^ b) % 2 ^ k) (hp : p = 2 ^ k) (hne : (a >>> k) % 2 ≠ (b >>> k) % 2) : o + p = (a ^^^ b) % 2 ^ (k + 1) := by
  rw [Nat.mod_pow_succ, ← ho, ← hp]
  have h1 : (a ^^^ b) / p % 2 = 1 := by
    rw [hp, ← Nat.shiftRight_eq_div_pow, Nat.shiftRight_xor_distrib, Nat.xor_mod_two_eq_one]
    omega
  rw [h1]
  omega
theorem xor_stay (a b k : Nat) (o : Nat) (ho : o = (a ^^^ b) % 2 ^ k) (hne : (a >>> k) % 2 = (b >>> k) % 2) : o = (a ^^^ b) % 2 ^ (k + 1) := by
  rw [Nat.mod_pow_succ, ← ho]
  have h1 : (a ^^^ b) / 2 ^ k % 2 = 0 := by
    rw [← Nat.shiftRight_eq_div_pow, Nat.shiftRight_xor_distrib]
    have := Nat.xor_mod_two_eq_one (a := a >>> k) (b := b >>> k)
    omega
  rw [h1]
  omega
theorem nb_shr_succ (x : W32) (k : Nat) : nb (x >>> k) / (2 : Int) = nb (x >>> (k + 1)) := by
  rw [shr1_nb, BitVec.shiftRight_add]
theorem nb_shr_mod (x : W32) (k : Nat) : nb (x >>> k) % (2 : Int) = (((x.toNat >>> k) % 2 : Nat) : Int) := by
  unfold nb
  rw [BitVec.toNat_ushiftRight]
  omega
set_option maxRecDepth 100000 in
theorem xor_calls (x y : W32) (w : World) : Calls Try.prog 148 #[.int .u32 (nb x), .int .u32 (nb y)] w fun e w' => e = .returned (.int .u32 (nb (x ^^^ y))) ∧ w = w' := by
  go_enter Try.func148, Try.ntmps148
  go_wp2
  go_loop [7, 0, 1, 5, 6] (fun i a b o p => ∃ k : Nat, k ≤ 32 ∧ i = .int .i64 k ∧ a = .int .u32 (nb (x >>> k)) ∧ b = .int .u32 (nb (y >>> k)) ∧ o = .int .u32 (((x.toNat ^^^ y.toNat) % 2 ^ k : Nat) : Int) ∧ p = .int .u32 ((2 ^ k % 2 ^ 32 : Nat) : Int))
    (fun i _ _ _ _ => 32 - (intOf i).toNat)
  case atStart => exact ⟨0, by omega, rfl, by simp, by simp, by simp [Nat.mod_one], by simp⟩
  case round =>
    obtain ⟨k, hk, rfl, rfl, rfl, rfl, rfl⟩ := hrel
    by_cases hlt : k < 32
    · have hd : decide ((k : Int) < 32) = true := by simp; omega
      have hp32 : 2 ^ k ≤ 2 ^ 31 := Nat.pow_le_pow_right (by omega) (by omega)
      have hpm : 2 ^ k % 2 ^ 32 = 2 ^ k := Nat.mod_eq_of_lt (by omega)
      rw [hpm]
      obtain ⟨p, hp⟩ : ∃ p, p = 2 ^ k := ⟨_, rfl⟩
      obtain ⟨o, ho⟩ : ∃ o, o = (x.toNat ^^^ y.toNat) % 2 ^ k := ⟨_, rfl⟩
      have hop : o < p := by rw [ho, hp]; exact Nat.mod_lt _ (Nat.two_pow_pos k)
      rw [← ho, ← hp]
      rw [← hp] at hp32
      have hx := nb_range (x >>> k)
      have hy := nb_range (y >>> k)
      have HP := Lib.hid hp
      have HO := Lib.hid ho
      clear hp ho hpm
      have hnext : (2 * (p : Int)) % 4294967296 = ((2 ^ (k + 1) % 2 ^ 32 : Nat) : Int) := by
        rw [Nat.pow_succ, ← HP.out]; omega
      have HN := Lib.hid hnext
      clear hnext
      by_cases he : (x.toNat >>> k) % 2 = (y.toNat >>> k) % 2
      · have ht : (nb (x >>> k) % (2 : Int) != nb (y >>> k) % (2 : Int)) = false := by rw [nb_shr_mod, nb_shr_mod]; simp [he]
        have hs := xor_stay _ _ k o HO.out he
        have HS := Lib.hid hs
        clear hs he
        go_wp2
        go_round
        case rel => exact ⟨k + 1, by omega, by go_num, by rw [nb_shr_succ], by rw [nb_shr_succ], by rw [HS.out], by rw [← HN.out]⟩
        case measure => simp [intOf]; omega
      · have ht : (nb (x >>> k) % (2 : Int) != nb (y >>> k) % (2 : Int)) = true := by rw [nb_shr_mod, nb_shr_mod, bne_iff_ne]; omega
        have hs := xor_step _ _ k o p HO.out HP.out he
        have HS := Lib.hid hs
        clear hs he
        go_wp2
        go_round
        case rel => exact ⟨k + 1, by omega, by go_num, by rw [nb_shr_succ], by rw [nb_shr_succ], by rw [← HS.out]; go_num, by rw [← HN.out]⟩
        case measure => simp [intOf]; omega
    · have hd : decide ((k : Int) < 32) = false := by simp; omega
      have hr : (((x.toNat ^^^ y.toNat) % 2 ^ k : Nat) : Int) = nb (x ^^^ y) := by
        rw [show k = 32 by omega]
        unfold nb
        rw [BitVec.toNat_xor, Nat.mod_eq_of_lt]
        exact Nat.xor_lt_two_pow x.isLt y.isLt
      rw [hr]
      clear hr
      go_wp2
      go_ret
      exact ⟨rfl, rfl⟩
end Go.Proofs.Ytnhmhnejglpijaa
namespace Go.Proofs.Ytnhmhnejglpijaa
open Go.RowKit
set_option maxRecDepth 100000
theorem nb_mod2 (x : W32) : nb x % (2 : Int) = nb (x &&& 1#32) := by
  unfold nb
  rw [BitVec.toNat_and, show (1#32).toNat = 1 from rfl, Nat.and_one_is_mod]
  omega
theorem xor_and (r b c : W32) : (r ^^^ b) &&& c = (r &&& c) ^^^ (b &&& c) := by
  apply BitVec.eq_of_getLsbD_eq
  intro i _
  simp only [BitVec.getLsbD_and, BitVec.getLsbD_xor]
  cases r.getLsbD i <;> cases b.getLsbD i <;> simp
theorem fed_or (r b : W32) (hb : b = 0#32 ∨ b = 1#32) : (r ^^^ b) &&& 1#32 = 1#32 ↔ r &&& 1#32 ≠ b := by
  have h1 : r &&& 1#32 = 0#32 ∨ r &&& 1#32 = 1#32 := by
    have : (r &&& 1#32).toNat = r.toNat % 2 := by rw [BitVec.toNat_and, show (1#32).toNat = 1 from rfl, Nat.and_one_is_mod]
    rcases Nat.mod_two_eq_zero_or_one r.toNat with h | h
    · exact .inl (BitVec.eq_of_toNat_eq (by rw [this, h]; rfl))
    · exact .inr (BitVec.eq_of_toNat_eq (by rw [this, h]; rfl))
  have h2 : (r ^^^ b) &&& 1#32 = (r &&& 1#32) ^^^ (b &&& 1#32) := xor_and _ _ _
  rw [h2]
  rcases h1 with h1 | h1 <;> rcases hb with rfl | rfl <;> rw [h1] <;> decide
theorem rfeed_calls (r b : W32) (hb : b = 0#32 ∨ b = 1#32) (w : World) : Calls Try.prog 144 #[.int .u32 (nb r), .int .u32 (nb b)] w fun e w' => e = .returned (.int .u32 (nb (fed r b))) ∧ w = w' := by
  have h0 := nb_range r
  have hiff := fed_or r b hb
  by_cases h : (r ^^^ b) &&& 1#32 = 1#32
  · have ht : (nb r % (2 : Int) != nb b) = true := by
      rw [nb_mod2, bne_iff_ne]
      exact fun e => hiff.1 h (nb_inj e)
    have hf : fed r b = (r >>> 1) ^^^ poly := by simp [fed, h]
    have hs := shr1_nb r
    have HF := Lib.hid hf
    clear hf h hiff
    go_enter Try.func144, Try.ntmps144
    go_wp2_with (go_at_call 148; refine (xor_calls (r >>> 1) poly _).mono ?_; rintro e w' ⟨rfl, rfl⟩)
    go_ret
    exact ⟨ret_int (by rw [HF.out]), rfl⟩
  · have ht : (nb r % (2 : Int) != nb b) = false := by
      rw [nb_mod2, bne_eq_false_iff_eq]
      by_cases e : r &&& 1#32 = b
      · rw [e]
      · exact absurd (hiff.2 e) h
    have hf : fed r b = (r >>> 1) := by simp [fed, h]
    have HF := Lib.hid hf
    clear hf h hiff
    go_enter Try.func144, Try.ntmps144
    go_wp2
    go_ret
    exact ⟨ret_int (by rw [HF.out, ← shr1_nb]), rfl⟩
/-- a bit of bytes -/
def bitAt (bs : List B8) (n : Nat) : W32 := ((byteAt bs (n / 8)).setWidth 32 >>> (n % 8)) &&& 1#32
theorem bitAt_or (bs : List B8) (n : Nat) : bitAt bs n = 0#32 ∨ bitAt bs n = 1#32 := by
  unfold bitAt
  generalize (byteAt bs (n / 8)).setWidth 32 >>> (n % 8) = r
  have : (r &&& 1#32).toNat = r.toNat % 2 := by rw [BitVec.toNat_and, show (1#32).toNat = 1 from rfl, Nat.and_one_is_mod]
  rcases Nat.mod_two_eq_zero_or_one r.toNat with h | h
  · exact .inl (BitVec.eq_of_toNat_eq (by rw [this, h]; rfl))
  · exact .inr (BitVec.eq_of_toNat_eq (by rw [this, h]; rfl))
set_option maxRecDepth 100000 in
theorem rbit_calls (v : Value) (bs : List B8) (n : Nat) (w : World) (hb : Bys w v bs) (hl : bs.length ≤ 1099511627776) (hn : n < 8 * bs.length) :
    Calls Try.prog 109 #[v, .int .i64 n] w fun e w' => e = .returned (.int .u32 (nb (bitAt bs n))) ∧ w = w' := by
  obtain ⟨A, cap, rfl, hc1, hc2, hc3, hc4⟩ := hb
  obtain ⟨b, off, rfl, hc⟩ := hc4 (by omega)
  have hx := hc (n / 8) (by omega)
  have hbn := bn_range (byteAt bs (n / 8))
  have i0 : (0 : Int) ≤ ((n / 8 : Nat) : Int) := by omega
  have i1 : ((n / 8 : Nat) : Int) < (bs.length : Int) := by omega
  unfold maxLen at hc2
  clear hc hc3 hc4
  go_enter Try.func109, Try.ntmps109
  go_wp2
  go_loop [14, 5] (fun i x => ∃ k : Nat, k ≤ n % 8 ∧ i = .int .i64 k ∧ x = .int .u32 (nb ((byteAt bs (n / 8)).setWidth 32 >>> k))) (fun i _ => 8 - (intOf i).toNat)
  case atStart => exact ⟨0, by omega, rfl, by rw [bn_nb]; simp⟩
  case round =>
    obtain ⟨k, hk, rfl, rfl⟩ := hrel
    have hy := nb_range ((byteAt bs (n / 8)).setWidth 32 >>> k)
    by_cases hlt : k < n % 8
    · have h2 : (k : Int) < (n : Int) % 8 := by omega
      go_wp2
      go_round
      case rel => exact ⟨k + 1, by omega, by go_num, by rw [nb_shr_succ]⟩
      case measure => simp [intOf]; omega
    · have h2 : ¬ ((k : Int) < (n : Int) % 8) := by omega
      have hr : nb ((byteAt bs (n / 8)).setWidth 32 >>> k) % (2 : Int) = nb (bitAt bs n) := by rw [nb_mod2, bitAt, show k = n % 8 by omega]
      have HR := Lib.hid hr
      clear hr
      go_wp2
      go_ret
      exact ⟨ret_int HR.out, rfl⟩
def fedBits (x : W32) (bs : List B8) : Nat → W32
  | 0 => x
  | n + 1 => fed (fedBits x bs n) (bitAt bs n)
set_option maxRecDepth 100000 in
theorem rfed_calls (x : W32) (v : Value) (bs : List B8) (w : World) (hb : Bys w v bs) (hl : bs.length ≤ 1099511627776) :
    Calls Try.prog 139 #[.int .u32 (nb x), v] w fun e w' => e = .returned (.int .u32 (nb (fedBits x bs (8 * bs.length)))) ∧ w = w' := by
  have hb' := hb
  obtain ⟨A, cap, rfl, hc1, hc2, hc3, hc4⟩ := hb'
  have HB := Lib.hid hb
  unfold maxLen at hc2
  clear hb hc3 hc4
  go_enter Try.func139, Try.ntmps139
  go_wp2
  go_loopw [9, 0, 5] (fun i r _ wr => ∃ k : Nat, k ≤ 8 * bs.length ∧ i = .int .i64 k ∧ r = .int .u32 (nb (fedBits x bs k)) ∧ w = wr) (fun i _ _ _ => 8 * bs.length - (intOf i).toNat)
  case atStart => exact ⟨0, by omega, rfl, rfl, rfl⟩
  case round =>
    obtain ⟨k, hk, rfl, rfl, rfl⟩ := hrel
    by_cases hlt : k < 8 * bs.length
    · have h2 : (k : Int) < 8 * (bs.length : Int) := by omega
      go_wp2_with (first | (go_at_call 109; refine (rbit_calls _ bs k _ HB.out hl hlt).mono ?_; rintro e w' ⟨rfl, rfl⟩) | (go_at_call 144; refine (rfeed_calls _ _ (bitAt_or bs k) _).mono ?_; rintro e w' ⟨rfl, rfl⟩))
      go_roundw
      case rel => exact ⟨k + 1, by omega, by go_num, rfl, trivial⟩
      case measure => simp [intOf]; omega
    · have h2 : ¬ ((k : Int) < 8 * (bs.length : Int)) := by omega
      have hr : nb (fedBits x bs k) = nb (fedBits x bs (8 * bs.length)) := by rw [show k = 8 * bs.length by omega]
      rw [hr]
      clear hr
      go_wp2
      go_ret
      exact ⟨rfl, rfl⟩
def moreR (sum : W32) (bs : List B8) : W32 := ~~~ (fedBits (~~~ sum) bs (8 * bs.length))
theorem rmore_calls (sum : W32) (v : Value) (bs : List B8) (w : World) (hb : Bys w v bs) (hl : bs.length ≤ 1099511627776) :
    Calls Try.prog 126 #[.int .u32 (nb sum), v] w fun e w' => e = .returned (.int .u32 (nb (moreR sum bs))) ∧ w = w' := by
  have hb' := hb
  obtain ⟨A, cap, rfl, hc1, hc2, hc3, hc4⟩ := hb'
  have HB := Lib.hid hb
  clear hb hc3 hc4
  obtain ⟨y, hy⟩ : ∃ y, y = fedBits (~~~ sum) bs (8 * bs.length) := ⟨_, rfl⟩
  have HY := Lib.hid hy
  clear hy
  go_enter Try.func126, Try.ntmps126
  go_wp2_with (first
    | (go_at_call 138; refine (turned_calls sum _).mono ?_; rintro e w' ⟨rfl, rfl⟩)
    | (go_at_call 139; refine (rfed_calls _ _ bs _ HB.out hl).mono ?_; rintro e w' ⟨rfl, rfl⟩; rw [← HY.out])
    | (go_at_call 138; refine (turned_calls y _).mono ?_; rintro e w' ⟨rfl, rfl⟩))
  go_ret
  exact ⟨ret_int (by rw [HY.out]; rfl), rfl⟩
theorem rsum_calls (v : Value) (bs : List B8) (w : World) (hb : Bys w v bs) (hl : bs.length ≤ 1099511627776) :
    Calls Try.prog 113 #[v] w fun e w' => e = .returned (.int .u32 (nb (moreR 0#32 bs))) ∧ w = w' := by
  have hb' := hb
  obtain ⟨A, cap, rfl, hc1, hc2, hc3, hc4⟩ := hb'
  have HB := Lib.hid hb
  clear hb hc3 hc4
  go_enter Try.func113, Try.ntmps113
  go_wp2_with (go_at_call 126; refine (rmore_calls 0#32 _ bs _ HB.out hl).mono ?_; rintro e w' ⟨rfl, rfl⟩)
  go_ret
  exact ⟨rfl, rfl⟩
end Go.Proofs.Ytnhmhnejglpijaa
namespace Go.Proofs.Ytnhmhnejglpijaa
open Go.RowKit
set_option maxRecDepth 100000
theorem byt3_nb (x : W32) : nb (x >>> 24) = bn (byt3 x) := by
  have h : nb (x >>> 24) < 256 := by
    rw [← shr24_nb]
    have := nb_range x
    omega
  have h0 := (nb_range (x >>> 24)).1
  have := nb_mod (x >>> 24)
  unfold byt3
  omega
theorem own8_four {w : World} (x : W32) : Own8 (w.alloc (.cells #[.int .u8 (bn (byt0 x)), .int .u8 (bn (byt1 x)), .int .u8 (bn (byt2 x)), .int .u8 (bn (byt3 x))] 5)) w.heap.size (.slice (some ⟨w.heap.size, 0, none⟩) 4 4) (fourB x) :=
  own8_of_heap (cur := bvals (fourB x)) (Nat.le_refl _) (new_here w _) rfl rfl (Nat.le_refl _) (by simp [maxLen]) rfl
section
theorem rfour_calls (x : W32) (w : World) : Calls Try.prog 112 #[.int .u32 (nb x)] w fun e w' => ∃ v', e = .returned v' ∧ Own8 w' w.heap.size v' (fourB x) ∧ Below w.heap.size w w' := by
  have h0 := nb_range x
  have e0 : nb x % (256 : Int) = bn (byt0 x) := nb_mod x
  have e1 : nb x / (256 : Int) % 256 = bn (byt1 x) := by rw [shr8_nb, nb_mod]; rfl
  have e2 : nb x / (65536 : Int) % 256 = bn (byt2 x) := by rw [shr16_nb, nb_mod]; rfl
  have e3 : nb x / (16777216 : Int) = bn (byt3 x) := by rw [shr24_nb, byt3_nb]
  have b0 := bn_range (byt0 x)
  have b1 := bn_range (byt1 x)
  have b2 := bn_range (byt2 x)
  have b3 := bn_range (byt3 x)
  go_enter Try.func112, Try.ntmps112
  go_wp2
  go_ret
  exact ⟨_, rfl, own8_four x, (Below.refl _ w).alloc (Nat.le_refl _) _⟩
end
theorem geq_nb (x : W32) : nb x ≥ 2147483648 ↔ x >>> 31 = 1#32 := by
  have h := shr31_nb x
  have h0 := nb_range x
  constructor
  · intro hx
    apply nb_inj
    rw [← h]
    show _ = (1 : Int)
    omega
  · intro hx
    rw [hx] at h
    have : nb (1#32) = 1 := rfl
    omega
theorem xor_low (x : W32) (h : x >>> 31 = 1#32) : nb (x ^^^ poly) ≤ 2147483647 := by
  have h1 := shr31_nb (x ^^^ poly)
  have h2 : (x ^^^ poly) >>> 31 = 0#32 := by
    rw [BitVec.ushiftRight_xor_distrib, h]
    decide
  rw [h2] at h1
  have h3 : nb (0#32) = 0 := rfl
  have := nb_range (x ^^^ poly)
  omega
theorem shl_or1 (y : W32) (h : nb y ≤ 2147483647) : nb ((y <<< 1) ||| 1#32) = 2 * nb y + 1 := by
  unfold nb at *
  rw [BitVec.toNat_or, BitVec.toNat_shiftLeft, Nat.shiftLeft_eq]
  have h1 : y.toNat * 2 ^ 1 % 2 ^ 32 = 2 ^ 1 * y.toNat := by omega
  rw [h1, show (1#32).toNat = 1 from rfl, ← Nat.two_pow_add_eq_or_of_lt (by decide)]
  omega
theorem Own8.below {w w' : World} {B : Nat} {v : Value} {bs : List B8} (h : Own8 w B v bs) (hb : Below w.heap.size w w') : Own8 w' B v bs := h.mod (L := []) (Mod.of_below' hb) (fun _ _ h => by cases h)
def sealR (bs : List B8) : List B8 := bs ++ fourB (moreR 0#32 bs)
set_option maxRecDepth 100000 in
theorem rseal_calls (v : Value) (bs : List B8) (w : World) (hb : Bys w v bs) (hl : bs.length ≤ 1099511627776) :
    Calls Try.prog 81 #[v] w fun e w' => ∃ v', e = .returned v' ∧ Own8 w' w.heap.size v' (sealR bs) ∧ Below w.heap.size w w' := by
  have hb' := hb
  obtain ⟨A, cap, rfl, hc1, hc2, hc3, hc4⟩ := hb'
  have HB := Lib.hid hb
  clear hb hc3 hc4
  go_enter Try.func81, Try.ntmps81
  go_wp2_with (first
    | (at_builtin; refine wpList_app8 rfl (.tmp 3) (.tmp 4) rfl w.heap.size _ _ [] bs rfl (own8_empty w) rfl (HB.out.below (below_al (Below.refl _ _) _)) (by simp; omega) (by simp) ?_; intro v1 w1 h1 h2 _; have hbw : Below w.heap.size w w1 := (below_al (Below.refl _ w) _).grown h2 (by simp) (fun k e => by have h : w.heap.size = k := (by simpa [Act.eval, Value.ownBlock] using e); omega); clear h2)
    | (go_at_call 113; refine (rsum_calls _ bs _ (HB.out.below hbw) hl).mono ?_; rintro e w' ⟨rfl, rfl⟩)
    | (go_at_call 112; refine (rfour_calls _ _).mono ?_; rintro e w2 ⟨v2, rfl, h3, h4⟩)
    | (at_builtin; refine wpList_app8 rfl (.tmp 5) (.tmp 8) rfl w.heap.size _ _ ([] ++ bs) (fourB (moreR 0#32 bs)) rfl ?hx rfl h3.bys ?hl ?hbase ?_; rotate_left 3; intro v5 w5 h5 h6 _))
  case hx => exact h1.below h4
  case hl => simp [fourB]; omega
  case hbase => exact Nat.le_trans hbw.size h4.size
  go_ret
  refine ⟨_, rfl, h5, ?_⟩
  refine (below_tr hbw h4).grown h6 (Nat.le_trans hbw.size h4.size) (fun k e => ?_)
  have e' : v1.ownBlock = some k := e
  exact (h1.lt k e').1
end Go.Proofs.Ytnhmhnejglpijaa
namespace Go.Proofs.Ytnhmhnejglpijaa
open Go.RowKit
set_option maxRecDepth 100000
def openedR (bs : List B8) : Option (List B8) := if bs.length < 4 then none else if bs.drop (bs.length - 4) = fourB (moreR 0#32 (bs.take (bs.length - 4))) then some (bs.take (bs.length - 4)) else none
def OpenRE (w : World) (r : Option (List B8)) (e : Ending) (w' : World) : Prop :=
  Below w.heap.size w w' ∧ match r with
  | none => e = .returned (.tuple #[.slice none 0 0, .bool false])
  | some l => ∃ v', e = .returned (.tuple #[v', .bool true]) ∧ Own8 w' w.heap.size v' l
theorem ropen_short (v : Value) (bs : List B8) (w : World) (hb : Bys w v bs) (hs : bs.length < 4) :
    Calls Try.prog 89 #[v] w fun e w' => e = .returned (.tuple #[.slice none 0 0, .bool false]) ∧ w = w' := by
  obtain ⟨A, cap, rfl, hc1, hc2, hc3, hc4⟩ := hb
  clear hc3 hc4
  unfold maxLen at hc2
  have hlt : ((bs.length : Int) - 4 < 0) := by omega
  go_enter Try.func89, Try.ntmps89
  go_wp2
  go_ret2
  exact ⟨rfl, rfl⟩
theorem four_ext {l : List B8} {x : W32} (hl : l.length = 4) (h : ∀ j, j < 4 → byteAt l j = byteAt (fourB x) j) : l = fourB x := by
  apply List.ext_getElem
  · rw [hl]; rfl
  · intro j h1 h2
    have := h j (by omega)
    simpa [byteAt, List.getD_eq_getElem?_getD, h1, h2] using this
theorem byteAt_drop (bs : List B8) (m j : Nat) : byteAt (bs.drop m) j = byteAt bs (m + j) := by simp [byteAt, List.getD_eq_getElem?_getD, List.getElem?_drop]
set_option maxRecDepth 100000 in
theorem ropen_calls (v : Value) (bs : List B8) (w : World) (hb : Bys w v bs) (hs : 4 ≤ bs.length) (hlen : bs.length ≤ 1099511627776) :
    Calls Try.prog 89 #[v] w (OpenRE w (openedR bs)) := by
  obtain ⟨m, hm⟩ : ∃ m, bs.length = m + 4 := ⟨bs.length - 4, by omega⟩
  have hb' := hb
  obtain ⟨A, cap, rfl, hc1, hc2, hc3, hc4⟩ := hb'
  obtain ⟨bb, off, rfl, hcells⟩ := hc4 (by omega)
  have HB := Lib.hid hb
  have HB2 := Lib.hid (hb.take m (by omega))
  have HM := Lib.hid hm
  have HC := Lib.hid hcells
  have hopen : openedR bs = if bs.drop m = fourB (moreR 0#32 (bs.take m)) then some (bs.take m) else none := by
    unfold openedR
    rw [if_neg (by omega), show bs.length - 4 = m by omega]
  obtain ⟨S, hS⟩ : ∃ S, moreR 0#32 (bs.take m) = S := ⟨_, rfl⟩
  rw [hS] at hopen
  have HO := Lib.hid hopen
  have HS := Lib.hid hS
  have htl : (bs.take m).length ≤ 1099511627776 := by simp; omega
  unfold maxLen at hc2
  rw [hm] at hc1
  rw [hm]
  clear hb hc3 hc4 hm hcells hopen hS
  have em : ((m : Int) + 4 - 4) = m := by omega
  have em2 : ((m + 4 : Nat) : Int) = (m : Int) + 4 := by omega
  have i0 : (0 : Int) ≤ (m : Int) := by omega
  have hlt : ¬ ((m : Int) < 0) := by omega
  have i1 : (m : Int) ≤ (cap : Int) := by omega
  go_enter Try.func89, Try.ntmps89
  go_wp2_with (first
    | (go_at_call 113; refine (rsum_calls _ (bs.take m) _ HB2.out htl).mono ?_; rintro e w' ⟨rfl, rfl⟩; rw [HS.out])
    | (go_at_call 112; refine (rfour_calls _ _).mono ?_; rintro e w2 ⟨v2, rfl, h3, h4⟩; obtain ⟨g, c2, e2, _⟩ := World.ownsRow.form h3 (show 0 < 4 by decide); rw [show (fourB S).length = 4 from rfl] at e2; subst e2; have H3 := Lib.hid h3; clear h3))
  go_loop [18, 5, 6] (fun i _ _ => ∃ k : Nat, k ≤ 4 ∧ i = .int .i64 k ∧ Hid (∀ j, j < k → byteAt (bs.drop m) j = byteAt (fourB S) j)) (fun i _ _ => 4 - (intOf i).toNat)
  case atStart => exact ⟨0, by omega, rfl, fun j hj => by omega⟩
  case round =>
    obtain ⟨k, hk, rfl, HK⟩ := hrel
    by_cases hlt4 : k < 4
    · have hd4 : decide ((k : Int) < 4) = true := by simp; omega
      have q1 := HC.out (m + k) (by have := HM.out; omega)
      have q2 := (h4.cell (p := ⟨bb, off + (m + k), none⟩) (World.block_lt_of_cell? _ _ q1)).trans q1
      have q3 := World.ownsRow.cells H3.out (g := g) rfl k _ (bvals_get (fourB S) k hlt4)
      rw [add_plain] at q3
      have j0 : (0 : Int) ≤ (m : Int) + (k : Int) := by omega
      have j1 : (m : Int) + (k : Int) < (m : Int) + 4 := by omega
      clear q1
      by_cases he : byteAt bs (m + k) = byteAt (fourB S) k
      · have hb1 : (bn (byteAt bs (m + k)) != bn (byteAt (fourB S) k)) = false := by rw [he]; simp
        have hk1 : ∀ j, j < k + 1 → byteAt (bs.drop m) j = byteAt (fourB S) j := fun j hj => by
          by_cases e : j = k
          · rw [e, byteAt_drop]; exact he
          · exact HK.out j (by omega)
        have HK1 := Lib.hid hk1
        clear hk1 he
        go_wp2
        go_round
        case rel => exact ⟨k + 1, by omega, by go_num, HK1⟩
        case measure => simp [intOf]; omega
      · have hb1 : (bn (byteAt bs (m + k)) != bn (byteAt (fourB S) k)) = true := by rw [bne_iff_ne]; exact fun h => he (bn_inj h)
        have hno : openedR bs = none := by
          rw [HO.out, if_neg]
          intro h
          apply he
          rw [← byteAt_drop, h]
        have HN := Lib.hid hno
        clear hno he
        go_wp2
        go_ret2
        refine ⟨h4, ?_⟩
        rw [HN.out]
        rfl
    · have hd4 : decide ((k : Int) < 4) = false := by simp; omega
      have hyes : openedR bs = some (bs.take m) := by
        rw [HO.out, if_pos]
        exact four_ext (by simp; have := HM.out; omega) (fun j hj => HK.out j (by omega))
      have HY := Lib.hid hyes
      clear hyes
      go_wp2_with (at_builtin; refine wpList_app8 rfl (.tmp 32) (.tmp 35) rfl w2.heap.size _ _ [] (bs.take m) rfl (own8_empty _) rfl ?hx ?hl ?hbase ?_; rotate_left 3; intro v' w7 h7 h8 _)
      case hx => exact HB2.out.below (h4.alloc (by have := h4.size; simpa using this) _)
      case hl => have := Nat.min_le_right m bs.length; omega
      go_ret2
      refine ⟨?_, ?_⟩
      · exact (h4.alloc (by have := h4.size; simpa using this) (.cells #[] 5)).grown h8 (by have := h4.size; simp; omega) (fun k e => by
          have : w2.heap.size = k := (by simpa [Act.eval, Value.ownBlock] using e)
          have := h4.size
          omega)
      · rw [HY.out]
        exact ⟨v', rfl, Own8.base h7 h4.size⟩
theorem ropen_all (v : Value) (bs : List B8) (w : World) (hb : Bys w v bs) (hlen : bs.length ≤ 1099511627776) :
    Calls Try.prog 89 #[v] w (OpenRE w (openedR bs)) := by
  by_cases hs : bs.length < 4
  · refine (ropen_short v bs w hb hs).mono ?_
    rintro e w' ⟨rfl, rfl⟩
    refine ⟨Below.refl _ _, ?_⟩
    rw [openedR, if_pos hs]
  · exact ropen_calls v bs w hb (by omega) hlen
end Go.Proofs.Ytnhmhnejglpijaa
namespace Go.Proofs.Ytnhmhnejglpijaa
open Go.RowKit
set_option maxRecDepth 100000
set_option linter.unusedSimpArgs false
theorem own8_some {w : World} {B : Nat} {v : Value} {bs : List B8} (h : Own8 w B v bs) (h0 : 0 < bs.length) : ∃ g cap, v = .slice (some ⟨g, 0, none⟩) bs.length cap ∧ B ≤ g ∧ g < w.heap.size ∧ bs.length ≤ cap ∧ cap ≤ maxLen := by
  rcases h.2 with ⟨_, hn⟩ | ⟨g, cap, cur, e, hb, hgg, hnc, hm, _⟩
  · omega
  · exact ⟨g, cap, e, hb, lt_of_heap hgg, hnc, hm⟩
theorem own8_set {w : World} {B g n cap : Nat} {bs : List B8} (h : Own8 w B (.slice (some ⟨g, 0, none⟩) n cap) bs) (hn : n = bs.length) (k : Nat) (hk : k < bs.length) (y : B8) :
    w.cell? ⟨g, k, none⟩ = some (.int .u8 (bn (byteAt bs k))) ∧ w.frozen? ⟨g, k, none⟩ = false ∧ Own8 (w.setCell ⟨g, k, none⟩ (.int .u8 (bn y))) B (.slice (some ⟨g, 0, none⟩) n cap) (bs.set k y) := by
  subst hn
  obtain ⟨A, c, e1, h1, h2, h3, h4⟩ := h.bys
  cases e1
  obtain ⟨b, off, e2, hc⟩ := h4 (by omega)
  cases e2
  have hck := hc k hk
  rw [Nat.zero_add] at hck
  rcases h.2 with ⟨e, hn⟩ | ⟨g', cap', cur, e, hb, hgg, hnc, hm, hsz, ht⟩
  · cases e
  · cases e
    refine ⟨hck, free_of_heap hgg, ?_⟩
    have hgg' : w.heap[g]? = some (.cells (cur.toList).toArray 5 (0, 0)) := by simpa using hgg
    have hs := heap_setCell_same w g k (.int .u8 (bn y)) _ _ _ hgg'
    simp only [List.setIfInBounds_toArray] at hs
    rw [Nat.mul_one] at ht hsz
    refine own8_of_heap hb hs (by simp [hsz]) (by simp) h1 hm ?_
    rw [List.take_set, ht]
    simp [bvals, List.map_set]
end Go.Proofs.Ytnhmhnejglpijaa
