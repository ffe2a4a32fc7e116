/- The references of numbers and records: walks. -/
import Derived.Test.YtnhmhnejglpijaaQc
import Derived.Test.YtnhmhnejglpijaaHb
namespace Go.Proofs.Ytnhmhnejglpijaa
open Go.RowKit
set_option maxRecDepth 100000
set_option linter.unusedSimpArgs false
set_option linter.unusedVariables false
theorem layW_zero (N : Nat) : layW 0 N = [] := rfl
theorem layW_succ (k N : Nat) : layW (k + 1) N = byteN N k :: layW k N := by
  unfold layW
  rw [List.range_succ_eq_map, List.map_cons, List.map_map]
  congr 1
  apply List.map_congr_left
  intro j hj
  simp only [Function.comp]
  congr 1
  omega
theorem own8_single {w : World} {B g : Nat} {b : B8} (hB : B ≤ g) (h : w.heap[g]? = some (.cells #[.int .u8 (bn b)] 5 (0, 0))) : Own8 w B (.slice (some ⟨g, 0, none⟩) 1 1) [b] :=
  own8_of_heap (cur := bvals [b]) hB h rfl rfl (Nat.le_refl _) (by simp [maxLen]) rfl
theorem pow256 (k : Nat) : 2 ^ (8 * k) = 256 ^ k := by rw [Nat.pow_mul]
theorem low_byte (N k : Nat) : ((N / 256 ^ k : Nat) : Int) % 256 = bn (byteN N k) := by
  unfold bn byteN
  rw [BitVec.toNat_ofNat, pow256]
  omega
set_option maxHeartbeats 1000000 in
theorem rlay_calls (width N : Nat) (h8 : width ≤ 8) (hN : N < 18446744073709551616) (w : World) :
    Calls Try.prog 82 #[.int .i64 width, .int .u64 N] w fun e w' => ∃ v', e = .returned v' ∧ Own8 w' w.heap.size v' (layW width N) ∧ Below w.heap.size w w' := by
  go_enter Try.func82, Try.ntmps82
  go_wp2
  go_loopw [1, 5, 7] (fun s1 s5 s7 wr => ∃ k : Nat, k ≤ width ∧ s7 = .int .i64 k ∧ s1 = .int .u64 ((N / 256 ^ k : Nat) : Int) ∧ Hid (Own8 wr w.heap.size s5 (layW k N) ∧ Below w.heap.size w wr)) (fun _ _ i _ => width - (intOf i).toNat)
  case atStart => exact ⟨0, Nat.zero_le _, rfl, by simp, Lib.hid ⟨Own8.nil _ _, Below.refl _ _⟩⟩
  case round =>
    obtain ⟨k, hk, rfl, rfl, HR⟩ := hrel
    have hle : N / 256 ^ k ≤ N := Nat.div_le_self _ _
    by_cases hlt : k < width
    · have hd : decide ((k : Int) < (width : Int)) = true := by simpa using hlt
      have hd2 : decide (k < width) = true := by simpa using hlt
      have hb := low_byte N k
      have hbr := bn_range (byteN N k)
      have hcv : IntKind.u8.wrap (bn (byteN N k)) = bn (byteN N k) := by rw [IntKind.wrap_u8]; omega
      have hdv : ((N / 256 ^ k : Nat) : Int) / 256 = ((N / 256 ^ (k + 1) : Nat) : Int) := by rw [Nat.pow_succ, ← Nat.div_div_eq_div_mul]; omega
      have hm : Int.tmod ((N / 256 ^ k : Nat) : Int) 256 = bn (byteN N k) := by rw [Int.tmod_eq_emod_of_nonneg (Int.natCast_nonneg _)]; exact hb
      have ht : Int.tdiv ((N / 256 ^ k : Nat) : Int) 256 = ((N / 256 ^ (k + 1) : Nat) : Int) := by rw [Int.tdiv_eq_ediv_of_nonneg (Int.natCast_nonneg _)]; exact hdv
      have hlw := layW_length k N
      have HL : Hid (layW (k + 1) N = [byteN N k] ++ layW k N) := Lib.hid (layW_succ k N)
      have HLL : Hid ((1 : Nat) + (layW k N).length ≤ 140737488355328) := Lib.hid (by omega)
      clear hlw
      generalize N / 256 ^ k = M at *
      obtain ⟨M', hM'⟩ : ∃ m, N / 256 ^ (k + 1) = m := ⟨_, rfl⟩
      rw [hM'] at hdv ht
      have HM := Lib.hid hM'
      clear hM'
      go_wp2_with (at_builtin; refine wpList_app8 rfl (.tmp 12) (.tmp 13) rfl w.heap.size _ _ [byteN N k] (layW k N) rfl (own8_single HR.out.2.size (new_here wr _)) rfl (HR.out.1.bys.below (below_al (Below.refl _ _) _)) HLL.out (by have := HR.out.2.size; simp; omega) ?_; intro v' w1 h1 h2 _; rw [← HL.out] at h1)
      have HN : Hid (Own8 w1 w.heap.size v' (layW (k + 1) N) ∧ Below w.heap.size w w1) := Lib.hid ⟨h1, (below_al HR.out.2 _).grown h2 (by have := HR.out.2.size; simp; omega) (fun k e => by have h : wr.heap.size = k := (by simpa [Act.eval, Value.ownBlock] using e); have := HR.out.2.size; omega)⟩
      clear h1 h2
      go_wp2
      go_roundw
      case rel => exact ⟨k + 1, by omega, by go_num, by rw [HM.out], HN⟩
      case measure => simp [intOf]; omega
    · have hd : decide ((k : Int) < (width : Int)) = false := by simpa using hlt
      have hd2 : decide (k < width) = false := by simpa using hlt
      have hk : k = width := by omega
      have HK := Lib.hid hk
      clear hk
      go_wp2
      go_ret
      exact ⟨_, rfl, by rw [← HK.out]; exact HR.out.1, HR.out.2⟩
set_option maxHeartbeats 1000000 in
theorem rnumber_calls (v : Value) (bs : List B8) (w : World) (hb : Bys w v bs) (hl : bs.length ≤ 8) :
    Calls Try.prog 88 #[v] w fun e w' => e = .returned (.int .u64 (numB bs)) ∧ w = w' := by
  obtain ⟨A, cap, rfl, h1, h2, _, h4⟩ := hb
  have HC := Lib.hid h4
  clear h4
  go_enter Try.func88, Try.ntmps88
  go_wp2
  go_loop [3, 8] (fun s3 s8 => ∃ k : Nat, k ≤ bs.length ∧ s8 = .int .i64 k ∧ s3 = .int .u64 (numB (bs.take k))) (fun _ i => bs.length - (intOf i).toNat)
  case atStart => exact ⟨0, Nat.zero_le _, rfl, rfl⟩
  case round =>
    obtain ⟨k, hk, rfl, rfl⟩ := hrel
    by_cases hlt : k < bs.length
    · have hd : decide (k < bs.length) = true := by simpa using hlt
      obtain ⟨b, off, rfl, hcell⟩ := HC.out (by omega)
      have k1 := hcell k hlt
      have i0 : (0 : Int) ≤ (k : Int) := by omega
      have i1 : (k : Int) < (bs.length : Int) := by omega
      have hn := numB_take_lt bs k (by omega)
      have hs : numB (bs.take (k + 1)) = numB (bs.take k) * 256 + (byteAt bs k).toNat := by rw [take_byte bs k hlt, numB_snoc]
      have hbr := bn_range (byteAt bs k)
      have hcv : IntKind.u64.wrap (bn (byteAt bs k)) = bn (byteAt bs k) := by rw [IntKind.wrap_u64]; omega
      have hs2 : (numB (bs.take (k + 1)) : Int) = 256 * (numB (bs.take k) : Int) + bn (byteAt bs k) := by rw [hs]; unfold bn; omega
      have HS := Lib.hid hs2
      clear hcell hs hs2
      generalize numB (bs.take k) = n at *
      go_wp2
      go_round
      case rel => exact ⟨k + 1, by omega, by go_num, by rw [HS.out]⟩
      case measure => simp [intOf]; omega
    · have hd : decide (k < bs.length) = false := by simpa using hlt
      have hk : k = bs.length := by omega
      have ht : bs.take k = bs := by rw [hk, List.take_length]
      rw [ht]
      clear hk ht
      go_wp2
      go_ret
      exact ⟨rfl, rfl⟩
theorem rbehind_calls (v1 v2 : Value) (bs cs : List B8) (w : World) (h1 : Bys w v1 bs) (h2 : Bys w v2 cs) (hl : bs.length + cs.length ≤ 1099511627776) :
    Calls Try.prog 44 #[v1, v2] w fun e w' => ∃ v', e = .returned v' ∧ Own8 w' w.heap.size v' (bs ++ cs) ∧ Below w.heap.size w w' := by
  obtain ⟨A, cap, rfl, _⟩ := id h1
  obtain ⟨A2, cap2, rfl, _⟩ := id h2
  have HB := Lib.hid h1
  have HC := Lib.hid h2
  clear h1 h2
  go_enter Try.func44, Try.ntmps44
  go_wp2_with (first
    | (at_builtin; refine wpList_app8 rfl (.tmp 5) (.tmp 6) rfl w.heap.size _ _ [] bs rfl (own8_empty w) rfl (HB.out.below (below_al (Below.refl _ _) _)) (by simp; omega) (by simp) ?_; intro v1 w1 h1 h2 _; have hbw : Below w.heap.size w w1 := (below_al (Below.refl _ w) _).grown h2 (by simp) (fun k e => by have h : w.heap.size = k := (by simpa [Act.eval, Value.ownBlock] using e); omega); clear h2)
    | (at_builtin; refine wpList_app8 rfl (.tmp 7) (.tmp 8) rfl w.heap.size _ _ ([] ++ bs) cs rfl h1 rfl (HC.out.below hbw) (by simp; omega) hbw.size ?_; intro v5 w5 h5 h6 _))
  go_ret
  exact ⟨_, rfl, h5, hbw.grown h6 hbw.size (fun k e => (h1.lt k e).1)⟩
/-! ### Records -/
def recW (bs : List B8) : List B8 := sealW (layW 4 bs.length ++ bs)
theorem recW_length (bs : List B8) : (recW bs).length = bs.length + 8 := by rw [recW, sealW_length, List.length_append, layW_length]; omega
theorem rrecord_calls (v : Value) (bs : List B8) (w : World) (hb : Bys w v bs) (hl : bs.length ≤ 1000000) :
    Calls Try.prog 41 #[v] w fun e w' => ∃ v', e = .returned v' ∧ Own8 w' w.heap.size v' (recW bs) ∧ Below w.heap.size w w' := by
  obtain ⟨A, cap, rfl, _⟩ := id hb
  have HB := Lib.hid hb
  clear hb
  have hcv : IntKind.u64.wrap (bs.length : Int) = (bs.length : Int) := by rw [IntKind.wrap_u64]; omega
  have HL : Hid ((layW 4 bs.length).length + bs.length ≤ 1099511627776) := Lib.hid (by rw [layW_length]; omega)
  have HL2 : Hid ((layW 4 bs.length ++ bs).length ≤ 1099511627776) := Lib.hid (by rw [List.length_append, layW_length]; omega)
  have HLY : Hid (∀ w, Calls Try.prog 82 #[.int .i64 4, .int .u64 bs.length] w fun e w' => ∃ v', e = .returned v' ∧ Own8 w' w.heap.size v' (layW 4 bs.length) ∧ Below w.heap.size w w') := Lib.hid (fun w => rlay_calls 4 bs.length (by decide) (by omega) w)
  go_enter Try.func41, Try.ntmps41
  go_wp2_with (first
    | (go_at_call 82; (with_reducible refine (HLY.out _).mono ?_); rintro e w1 ⟨v1, rfl, ho1, hb1⟩)
    | (go_at_call 44; (with_reducible refine (rbehind_calls _ _ (layW 4 bs.length) bs _ ho1.bys (HB.out.below hb1) HL.out).mono ?_); rintro e w2 ⟨v2, rfl, ho2, hb2⟩)
    | (go_at_call 81; (with_reducible refine (rseal_calls _ (layW 4 bs.length ++ bs) _ ho2.bys HL2.out).mono ?_); rw [sealR_eq]; rintro e w3 ⟨v3, rfl, ho3, hb3⟩))
  go_ret
  exact ⟨_, rfl, ho3.base (Nat.le_trans hb1.size hb2.size), below_tr (below_tr hb1 hb2) hb3⟩
end Go.Proofs.Ytnhmhnejglpijaa
