/- The references: four bytes, tails, sealed bytes. -/
import Derived.Test.YtekbjgnlaompbaaCp
namespace Go.Proofs.Ytekbjgnlaompbaa
open Go.RowKit
theorem byt3_nb (x : W32) : nb (x >>> 24) = bn (byt3 x) := by
  have h : nb (x >>> 24) < 256 := by
    rw [← shr24_nb]
    have := nb_range x
    omega
  have h0 := (nb_range (x >>> 24)).1
  have := nb_mod (x >>> 24)
  unfold byt3
  omega
theorem own8_four {w : World} (x : W32) : Own8 (w.alloc (.cells #[.int .u8 (bn (byt0 x)), .int .u8 (bn (byt1 x)), .int .u8 (bn (byt2 x)), .int .u8 (bn (byt3 x))] 5)) w.heap.size (.slice (some ⟨w.heap.size, 0, none⟩) 4 4) (fourB x) :=
  own8_of_heap (cur := bvals (fourB x)) (Nat.le_refl _) (new_here w _) rfl rfl (Nat.le_refl _) (by simp [maxLen]) rfl
section
theorem rfour_calls (x : W32) (w : World) : Calls Try.prog 29 #[.int .u32 (nb x)] w fun e w' => ∃ v', e = .returned v' ∧ Own8 w' w.heap.size v' (fourB x) ∧ Below w.heap.size w w' := by
  have h0 := nb_range x
  have e0 : nb x % (256 : Int) = bn (byt0 x) := nb_mod x
  have e1 : nb x / (256 : Int) % 256 = bn (byt1 x) := by rw [shr8_nb, nb_mod]; rfl
  have e2 : nb x / (65536 : Int) % 256 = bn (byt2 x) := by rw [shr16_nb, nb_mod]; rfl
  have e3 : nb x / (16777216 : Int) = bn (byt3 x) := by rw [shr24_nb, byt3_nb]
  have b0 := bn_range (byt0 x)
  have b1 := bn_range (byt1 x)
  have b2 := bn_range (byt2 x)
  have b3 := bn_range (byt3 x)
  go_enter Try.func29, Try.ntmps29
  go_wp2
  go_ret
  exact ⟨_, rfl, own8_four x, (Below.refl _ w).alloc (Nat.le_refl _) _⟩
end
theorem geq_nb (x : W32) : nb x ≥ 2147483648 ↔ x >>> 31 = 1#32 := by
  have h := shr31_nb x
  have h0 := nb_range x
  constructor
  · intro hx
    apply nb_inj
    rw [← h]
    show _ = (1 : Int)
    omega
  · intro hx
    rw [hx] at h
    have : nb (1#32) = 1 := rfl
    omega
theorem xor_low (x : W32) (h : x >>> 31 = 1#32) : nb (x ^^^ poly) ≤ 2147483647 := by
  have h1 := shr31_nb (x ^^^ poly)
  have h2 : (x ^^^ poly) >>> 31 = 0#32 := by
    rw [BitVec.ushiftRight_xor_distrib, h]
    decide
  rw [h2] at h1
  have h3 : nb (0#32) = 0 := rfl
  have := nb_range (x ^^^ poly)
  omega
theorem shl_or1 (y : W32) (h : nb y ≤ 2147483647) : nb ((y <<< 1) ||| 1#32) = 2 * nb y + 1 := by
  unfold nb at *
  rw [BitVec.toNat_or, BitVec.toNat_shiftLeft, Nat.shiftLeft_eq]
  have h1 : y.toNat * 2 ^ 1 % 2 ^ 32 = 2 ^ 1 * y.toNat := by omega
  rw [h1, show (1#32).toNat = 1 from rfl, ← Nat.two_pow_add_eq_or_of_lt (by decide)]
  omega
theorem back_calls (x : W32) (w : World) : Calls Try.prog 28 #[.int .u32 (nb x)] w fun e w' => e = .returned (.int .u32 (nb (unfed x))) ∧ w = w' := by
  have h0 := nb_range x
  by_cases h : x >>> 31 = 1#32
  · have h1 := (geq_nb x).2 h
    have hx0 := nb_range (x ^^^ poly)
    have hx1 := xor_low x h
    have hr : 2 * nb (x ^^^ poly) + 1 = nb (unfed x) := by
      rw [unfed, if_pos h, shl_or1 _ hx1]
    have HR := Lib.hid hr
    clear hr h
    go_enter Try.func28, Try.ntmps28
    go_wp2_with (go_at_call 30; refine (xor_calls x poly _).mono ?_; rintro e w' ⟨rfl, rfl⟩)
    go_ret
    exact ⟨ret_int HR.out, rfl⟩
  · have h1 : ¬ nb x ≥ 2147483648 := fun hx => h ((geq_nb x).1 hx)
    have hr : 2 * nb x = nb (unfed x) := by
      rw [unfed, if_neg h, ← shl1_nb]
      omega
    have HR := Lib.hid hr
    clear hr
    go_enter Try.func28, Try.ntmps28
    go_wp2
    go_ret
    exact ⟨ret_int HR.out, rfl⟩
set_option maxRecDepth 100000 in
theorem rtail_calls (sum want : W32) (w : World) : Calls Try.prog 12 #[.int .u32 (nb sum), .int .u32 (nb want)] w fun e w' => ∃ v', e = .returned v' ∧ Own8 w' w.heap.size v' (fourB (tailW sum want)) ∧ Below w.heap.size w w' := by
  go_enter Try.func12, Try.ntmps12
  go_wp2_with (go_at_call 27; refine (turned_calls want _).mono ?_; rintro e w' ⟨rfl, rfl⟩)
  go_loopw [8, 5] (fun i r wr => ∃ k : Nat, k ≤ 32 ∧ i = .int .i64 k ∧ r = .int .u32 (nb (unfedN k (~~~want))) ∧ w = wr) (fun i _ _ => 32 - (intOf i).toNat)
  case atStart => exact ⟨0, by omega, rfl, rfl, rfl⟩
  case round =>
    obtain ⟨k, hk, rfl, rfl, rfl⟩ := hrel
    by_cases hlt : k < 32
    · have hd : decide ((k : Int) < 32) = true := by simp; omega
      go_wp2_with (go_at_call 28; refine (back_calls _ _).mono ?_; rintro e w' ⟨rfl, rfl⟩)
      go_roundw
      case rel => exact ⟨k + 1, by omega, by go_num, rfl, trivial⟩
      case measure => simp [intOf]; omega
    · have hd : decide ((k : Int) < 32) = false := by simp; omega
      have hk2 : nb (unfedN k (~~~want)) = nb (unfedN 32 (~~~want)) := by rw [show k = 32 by omega]
      rw [hk2]
      clear hk2
      go_wp2_with (first
        | (go_at_call 27; refine (turned_calls sum _).mono ?_; rintro e w' ⟨rfl, rfl⟩)
        | (go_at_call 30; refine (xor_calls _ _ _).mono ?_; rintro e w' ⟨rfl, rfl⟩)
        | (go_at_call 29; refine (rfour_calls _ _).mono ?_; rintro e w' ⟨v', rfl, h1, h2⟩))
      go_ret
      exact ⟨_, rfl, h1, h2⟩
theorem Own8.below {w w' : World} {B : Nat} {v : Value} {bs : List B8} (h : Own8 w B v bs) (hb : Below w.heap.size w w') : Own8 w' B v bs := h.mod (L := []) (Mod.of_below' hb) (fun _ _ h => by cases h)
def sealR (bs : List B8) : List B8 := bs ++ fourB (moreR 0#32 bs)
set_option maxRecDepth 100000 in
theorem rseal_calls (v : Value) (bs : List B8) (w : World) (hb : Bys w v bs) (hl : bs.length ≤ 1099511627776) :
    Calls Try.prog 15 #[v] w fun e w' => ∃ v', e = .returned v' ∧ Own8 w' w.heap.size v' (sealR bs) ∧ Below w.heap.size w w' := by
  have hb' := hb
  obtain ⟨A, cap, rfl, hc1, hc2, hc3, hc4⟩ := hb'
  have HB := Lib.hid hb
  clear hb hc3 hc4
  go_enter Try.func15, Try.ntmps15
  go_wp2_with (first
    | (at_builtin; refine wpList_app8 rfl (.tmp 3) (.tmp 4) rfl w.heap.size _ _ [] bs rfl (own8_empty w) rfl (HB.out.below (below_al (Below.refl _ _) _)) (by simp; omega) (by simp) ?_; intro v1 w1 h1 h2 _; have hbw : Below w.heap.size w w1 := (below_al (Below.refl _ w) _).grown h2 (by simp) (fun k e => by have h : w.heap.size = k := (by simpa [Act.eval, Value.ownBlock] using e); omega); clear h2)
    | (go_at_call 21; refine (rsum_calls _ bs _ (HB.out.below hbw) hl).mono ?_; rintro e w' ⟨rfl, rfl⟩)
    | (go_at_call 29; refine (rfour_calls _ _).mono ?_; rintro e w2 ⟨v2, rfl, h3, h4⟩)
    | (at_builtin; refine wpList_app8 rfl (.tmp 5) (.tmp 8) rfl w.heap.size _ _ ([] ++ bs) (fourB (moreR 0#32 bs)) rfl ?hx rfl h3.bys ?hl ?hbase ?_; rotate_left 3; intro v5 w5 h5 h6 _))
  case hx => exact h1.below h4
  case hl => simp [fourB]; omega
  case hbase => exact Nat.le_trans hbw.size h4.size
  go_ret
  refine ⟨_, rfl, h5, ?_⟩
  refine (below_tr hbw h4).grown h6 (Nat.le_trans hbw.size h4.size) (fun k e => ?_)
  have e' : v1.ownBlock = some k := e
  exact (h1.lt k e').1
end Go.Proofs.Ytekbjgnlaompbaa
