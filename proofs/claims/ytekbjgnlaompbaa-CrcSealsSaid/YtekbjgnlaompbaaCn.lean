/- Spoilt bytes: the walk. -/
import Derived.Test.YtekbjgnlaompbaaCm
namespace Go.Proofs.Ytekbjgnlaompbaa
open Go.RowKit
/-- What is refused. -/
theorem spoil_neg (v : Value) (bs : List B8) (bit : Int) (m : W32) (w : World) (hb : Bys w v bs) (hn : bit < 0) :
    Calls Try.prog 18 #[v, .int .i64 bit, .int .u32 (nb m)] w fun e w' => e = .returned (.tuple #[.slice none 0 0, .int .i64 2]) ∧ Below w.heap.size w w' := by
  obtain ⟨A, cap, rfl, hc1, hc2, hc3, hc4⟩ := hb
  clear hc3 hc4
  unfold maxLen at hc2
  have hd : decide (bit < 0) = true := decide_eq_true hn
  go_enter Try.func18, Try.ntmps18
  go_wp2
  go_ret2
  exact ⟨rfl, (((Below.refl _ w).alloc (Nat.le_refl _) _).alloc (by simp) _).alloc (by simp; omega) _⟩
theorem spoil_far (v : Value) (bs : List B8) (bit : Nat) (m : W32) (w : World) (hb : Bys w v bs) (hl : bs.length ≤ 1099511627776) (hn : 8 * bs.length ≤ bit) :
    Calls Try.prog 18 #[v, .int .i64 bit, .int .u32 (nb m)] w fun e w' => e = .returned (.tuple #[.slice none 0 0, .int .i64 2]) ∧ Below w.heap.size w w' := by
  obtain ⟨A, cap, rfl, hc1, hc2, hc3, hc4⟩ := hb
  clear hc3 hc4
  unfold maxLen at hc2
  have hd : decide ((bit : Int) < 0) = false := by rw [decide_eq_false_iff_not]; omega
  have hd2 : (bit : Int) ≥ 8 * (bs.length : Int) := by omega
  go_enter Try.func18, Try.ntmps18
  go_wp2
  go_ret2
  exact ⟨rfl, (((Below.refl _ w).alloc (Nat.le_refl _) _).alloc (by simp) _).alloc (by simp; omega) _⟩
def flipB (bs : List B8) (n : Nat) : List B8 := bs.set (n / 8) (byteAt bs (n / 8) ^^^ (1#8 <<< (n % 8)))
def spoilK (bs : List B8) (bit : Nat) (m : W32) : Nat → List B8
  | 0 => bs
  | k + 1 => if isB m bit bs.length k = true then flipB (spoilK bs bit m k) (bit + k) else spoilK bs bit m k
def spoilS (bs : List B8) (bit : Nat) (m : W32) : Nat → Bool
  | 0 => false
  | k + 1 => if isB m bit bs.length k = true then true else spoilS bs bit m k
theorem spoilK_length (bs : List B8) (bit : Nat) (m : W32) (k : Nat) : (spoilK bs bit m k).length = bs.length := by
  induction k with
  | zero => rfl
  | succ k ih =>
    simp only [spoilK]
    split
    · simp [flipB, ih]
    · exact ih
theorem Bys.src {W : World} {A : Option Addr} {n cap : Nat} {bs : List B8} (h : Bys W (.slice A n cap) bs) :
    0 < (bvals bs).length → ∃ ad, A = some ad ∧ ∀ (j : Nat) (v : Value), (bvals bs)[j]? = some v → W.cell? (ad.add j) = some v := by
  intro hp
  obtain ⟨A', cap', e, _, _, _, h4⟩ := h
  cases e
  rw [bvals_length] at hp
  obtain ⟨b, off, e, hc⟩ := h4 hp
  refine ⟨_, e, fun j u hu => ?_⟩
  obtain ⟨hj, rfl⟩ := bvals_get' hu
  rw [add_off]
  exact hc j hj
theorem splice_all (bs : List B8) : splice (bvals (List.replicate bs.length 0#8)) 0 (bvals bs) = bvals bs := by
  have := splice_front bs 0
  simpa using this
theorem ofInt_bn (x : B8) : BitVec.ofInt 8 (bn x) = x := by simp [bn, BitVec.ofInt_natCast]
theorem wrap_u8_nat {n : Nat} (h : n < 256) : IntKind.u8.wrap (n : Int) = n := by rw [IntKind.wrap_u8]; omega
theorem bits_xor8 (x y : B8) : bits .xor .u8 (bn x) (bn y) = bn (x ^^^ y) := by
  simp only [bits, IntKind.bits, ofInt_bn]
  exact wrap_u8_nat (x ^^^ y).isLt
theorem two_pow_bn : ∀ r : Nat, r < 8 → (2 : Int) ^ r % 256 = bn (1#8 <<< r) := by decide
theorem xor_shift (x : B8) (r : Nat) (hr : r < 8) : bits .xor .u8 (bn x) ((2 : Int) ^ r % 256) = bn (x ^^^ (1#8 <<< r)) := by rw [two_pow_bn r hr, bits_xor8]
theorem bvals_set (bs : List B8) (j : Nat) (b : B8) : (bvals bs).toArray.setIfInBounds j (.int .u8 (bn b)) = (bvals (bs.set j b)).toArray := by
  simp [bvals, List.setIfInBounds_toArray, List.map_set]
structure SpR (w : World) (A : Option Addr) (bs : List B8) (cap bit : Nat) (m : W32) (k : Nat) (wr : World) : Prop where
  below : Below w.heap.size w wr
  b : wr.heap[w.heap.size]? = some (.cells #[.slice A bs.length cap] 29 (0, 0))
  bit_ : wr.heap[w.heap.size + 1]? = some (.cells #[.int .i64 bit] 3 (0, 0))
  mask : wr.heap[w.heap.size + 2]? = some (.cells #[.int .u32 (nb m)] 24 (0, 0))
  out : wr.heap[w.heap.size + 3]? = some (.cells (bvals (spoilK bs bit m k)).toArray 5 (0, 0))
/-- Bytes with bits turned; none: none is. -/
def spoilW (bs : List B8) (bit : Nat) (m : W32) : Option (List B8) := if spoilS bs bit m 32 = true then some (spoilK bs bit m 32) else none
def SpoilE (w : World) (r : Option (List B8)) (e : Ending) (w' : World) : Prop :=
  Below w.heap.size w w' ∧ match r with
  | none => e = .returned (.tuple #[.slice none 0 0, .int .i64 2])
  | some l => ∃ v', e = .returned (.tuple #[v', .int .i64 0]) ∧ Own8 w' w.heap.size v' l
set_option maxRecDepth 100000 in
theorem spoil_calls0 (v : Value) (bs : List B8) (bit : Nat) (m : W32) (w : World) (hb : Bys w v bs) (hl : bs.length ≤ 1099511627776) (hn : bit < 8 * bs.length) :
    Calls Try.prog 18 #[v, .int .i64 bit, .int .u32 (nb m)] w (SpoilE w (spoilW bs bit m)) := by
  have hb' := hb
  obtain ⟨A, cap, rfl, hc1, hc2, hc3, hc4⟩ := hb'
  have HB := Lib.hid hb
  clear hb hc3 hc4
  unfold maxLen at hc2
  have hd : decide ((bit : Int) < 0) = false := by rw [decide_eq_false_iff_not]; omega
  have hd2 : decide ((bit : Int) ≥ 8 * (bs.length : Int)) = false := by rw [decide_eq_false_iff_not]; omega
  have hmk : ∀ w, (Instr.makeSlice 29 (.int .i64 bs.length) (.int .i64 bs.length)).run Try.prog w = .ok (.slice (some ⟨w.heap.size, 0, none⟩) bs.length bs.length) (w.alloc (.cells (zb bs.length) 5)) := fun w => run_make8 w bs.length bs.length (Nat.le_refl _) (by omega)
  have hmf : ∀ (fn : Fn) (first cap : Array Value) (w : World), (Instr.makeFunc fn first cap).run Try.prog w = .ok (.func fn first cap) w := fun _ _ _ _ => rfl
  go_enter Try.func18, Try.ntmps18
  go_wp2_with (refine wpList_copy_splice rfl (.tmp 25) (.tmp 26) 29 29 rfl 5 Try.underlying29 (by kernel_rfl) _ _ _ _ _ _ rfl rfl (w.heap.size + 3) 0 (bvals (List.replicate bs.length 0#8)) 5 ?hg (bvals bs) ?hn ?hpos ?hfit (bvals_one bs) (w.heap.size + 3) _ (Below.refl _ _) (Nat.le_refl _) ?_; rotate_left 4; intro w6 hg6 hb6)
  case hg => exact (new_four w _ _ _ _).2.2.2
  case hn => simp [bvals_length]
  case hfit => simp [bvals_length]
  case hpos => exact (HB.out.below ((((((Below.refl _ w).alloc (Nat.le_refl _) _).alloc (by simp) _).alloc (by simp; omega) _).alloc (by simp; omega) _))).src
  have hR : SpR w A bs cap bit m 0 w6 := by
    obtain ⟨g0, g1, g2, _⟩ := new_four w (.cells #[.slice A bs.length cap] 29) (.cells #[.int .i64 bit] 3) (.cells #[.int .u32 (nb m)] 24) (.cells (zb bs.length) 5)
    refine ⟨?_, (hb6.block _ (by omega)).trans g0, (hb6.block _ (by omega)).trans g1, (hb6.block _ (by omega)).trans g2, ?_⟩
    · exact ((((((Below.refl _ w).alloc (Nat.le_refl _) _).alloc (by simp) _).alloc (by simp; omega) _).alloc (by simp; omega) _)).trans (hb6.mono (by omega))
    · have := hg6.out
      rw [splice_all] at this
      exact this
  clear hg6 hb6
  go_loopw [28, 11, 10] (fun i _ o wr => ∃ k : Nat, k ≤ 32 ∧ i = .int .i64 k ∧ o = .bool (spoilS bs bit m k) ∧ SpR w A bs cap bit m k wr) (fun i _ _ _ => 32 - (intOf i).toNat)
  case atStart => exact ⟨0, by omega, rfl, rfl, hR⟩
  case round =>
    obtain ⟨k, hk, rfl, rfl, hr⟩ := hrel
    have HR := Lib.hid hr
    clear hr hmk hd hd2
    have p0 := cell_of_heap (k := 0) HR.out.b
    have p1 := cell_of_heap (k := 0) HR.out.bit_
    have p2 := cell_of_heap (k := 0) HR.out.mask
    simp only [List.getElem?_toArray, List.getElem?_cons_zero] at p0 p1 p2
    by_cases hlt : k < 32
    · have hd : decide ((k : Int) < 32) = true := by simp; omega
      generalize hcur : spoilK bs bit m k = cur
      generalize hso : spoilS bs bit m k = so
      have HC := Lib.hid hcur
      have HSO := Lib.hid hso
      clear hcur hso
      by_cases hi : isB m bit bs.length k = true
      · go_wp2_with (go_at_call 32; refine (is_calls k bs.length bit m hlt hn hl ⟨w.heap.size + 1 + 1, 0, none⟩ ⟨w.heap.size + 1, 0, none⟩ ⟨w.heap.size, 0, none⟩ A cap _ p2 p1 p0).mono ?_; rintro e w' ⟨rfl, rfl⟩)
        have hN : bit + k < 8 * bs.length := by simp only [isB, Bool.and_eq_true, decide_eq_true_eq] at hi; exact hi.2
        have hout := HR.out.out
        rw [HC.out] at hout
        have hcl : cur.length = bs.length := by rw [← HC.out]; exact spoilK_length bs bit m k
        have c9 := (cell_of_heap (k := (bit + k) / 8) hout).trans (by rw [List.getElem?_toArray, bvals_get cur ((bit + k) / 8) (by omega)])
        have f9 := free_of_heap (k := (bit + k) / 8) hout
        have HOUT := Lib.hid hout
        have HCL := Lib.hid hcl
        have i0 : (0 : Int) ≤ (((bit + k) / 8 : Nat) : Int) := by omega
        have i1 : (((bit + k) / 8 : Nat) : Int) < (bs.length : Int) := by omega
        have i2 : (0 : Int) ≤ (((bit + k) % 8 : Nat) : Int) := by omega
        have e1 : IntKind.i64.wrap ((bit : Int) + (k : Int)) = ((bit + k : Nat) : Int) := by rw [IntKind.wrap_i64]; omega
        have e2 : IntKind.i64.wrap (Int.tdiv ((bit + k : Nat) : Int) 8) = (((bit + k) / 8 : Nat) : Int) := by rw [IntKind.wrap_i64, Int.tdiv_eq_ediv_of_nonneg (by omega)]; omega
        have e3 : Int.tmod ((bit + k : Nat) : Int) 8 = (((bit + k) % 8 : Nat) : Int) := by rw [Int.tmod_eq_emod_of_nonneg (by omega)]; omega
        clear hout hcl hN
        go_region
        rw [xor_shift _ _ (Nat.mod_lt _ (by omega))]
        have hs1 := lt_of_heap HOUT.out
        have hrs : SpR w A bs cap bit m (k + 1) (wr.setCell ⟨w.heap.size + 1 + 1 + 1, (bit + k) / 8, none⟩ (.int .u8 (bn (byteAt cur ((bit + k) / 8) ^^^ 1#8 <<< ((bit + k) % 8))))).drew := by
          refine ⟨(HR.out.below.setCell (p := ⟨w.heap.size + 1 + 1 + 1, (bit + k) / 8, none⟩) (by simp; omega) _).drew, ?_, ?_, ?_, ?_⟩
          · show (wr.setCell _ _).heap[_]? = _; rw [Below.heap_setCell _ _ _ _ (by simp; omega)]; exact HR.out.b
          · show (wr.setCell _ _).heap[_]? = _; rw [Below.heap_setCell _ _ _ _ (by simp)]; exact HR.out.bit_
          · show (wr.setCell _ _).heap[_]? = _; rw [Below.heap_setCell _ _ _ _ (by simp)]; exact HR.out.mask
          · refine (heap_setCell_same wr (w.heap.size + 3) _ _ _ _ _ HOUT.out).trans ?_
            rw [bvals_set, spoilK, if_pos hi, HC.out]
            rfl
        have hss : spoilS bs bit m (k + 1) = true := by rw [spoilS, if_pos hi]
        have HSS := Lib.hid hss
        have HRS := Lib.hid hrs
        clear hss hrs e1 e2 e3
        go_wp2
        go_roundw
        case rel => exact ⟨k + 1, by omega, by go_num, by rw [HSS.out], HRS.out⟩
        case measure => simp [intOf]; omega
      · have hi2 : isB m bit bs.length k = false := by simpa using hi
        have hss : spoilS bs bit m (k + 1) = so := by rw [spoilS, if_neg hi, HSO.out]
        have hrs : SpR w A bs cap bit m (k + 1) wr := ⟨HR.out.below, HR.out.b, HR.out.bit_, HR.out.mask, by rw [spoilK, if_neg hi]; exact HR.out.out⟩
        have HSS := Lib.hid hss
        have HRS := Lib.hid hrs
        clear hss hrs
        go_wp2_with (go_at_call 32; refine (is_calls k bs.length bit m hlt hn hl ⟨w.heap.size + 1 + 1, 0, none⟩ ⟨w.heap.size + 1, 0, none⟩ ⟨w.heap.size, 0, none⟩ A cap _ p2 p1 p0).mono ?_; rintro e w' ⟨rfl, rfl⟩)
        go_roundw
        case rel => exact ⟨k + 1, by omega, by go_num, by rw [HSS.out], HRS.out⟩
        case measure => simp [intOf]; omega
    · have hd : decide ((k : Int) < 32) = false := by simp; omega
      have hk2 : k = 32 := by omega
      have hout : wr.heap[w.heap.size + 3]? = some (.cells (bvals (spoilK bs bit m 32)).toArray 5 (0, 0)) := by rw [← hk2]; exact HR.out.out
      have HB2 := HR.out.below
      have HOUT := Lib.hid hout
      have hnot : ∀ (x : Bool) (w : World), (Op.unary .not (.bool x)).run Try.prog w = .ok (.bool (!x)) w := fun _ _ => rfl
      by_cases hss : spoilS bs bit m 32 = true
      · have hs2 : spoilS bs bit m k = true := by rw [hk2]; exact hss
        have hw : spoilW bs bit m = some (spoilK bs bit m 32) := by rw [spoilW, if_pos hss]
        have HW := Lib.hid hw
        clear hss hw hout hk2
        go_wp2
        go_ret2
        refine ⟨HB2, ?_⟩
        rw [HW.out]
        refine ⟨_, rfl, own8_of_heap (by omega) HOUT.out (by rw [bvals_length, spoilK_length]) (spoilK_length ..) (Nat.le_refl _) (by unfold maxLen; omega) ?_⟩
        exact List.take_of_length_le (by rw [bvals_length, spoilK_length]; exact Nat.le_refl _)
      · have hs2 : spoilS bs bit m k = false := by rw [hk2]; simpa using hss
        have hw : spoilW bs bit m = none := by rw [spoilW, if_neg hss]
        have HW := Lib.hid hw
        clear hss hw hout hk2
        go_wp2
        go_ret2
        refine ⟨HB2, ?_⟩
        rw [HW.out]
        rfl
end Go.Proofs.Ytekbjgnlaompbaa
