/- Sums, clones, equality: walks. -/
import Derived.Test.YtekbjgnlaompbaaCg
import Derived.Deep.QuietTactic
import Derived.BigQuiet
import Derived.Deep.LoopGhost
namespace Go.Proofs.Ytekbjgnlaompbaa
open Go.RowKit
/-- one row, in new memory -/
theorem rws_one {w : World} {v : Value} {bs : List B8} (h : Bys w v bs) : Rws (w.alloc (.cells #[v] 29)) (.slice (some ⟨w.heap.size, 0, none⟩) 1 1) [bs] := by
  refine ⟨_, 1, rfl, by simp, fun _ => ⟨_, _, rfl, fun j hj => ?_⟩⟩
  obtain rfl : j = 0 := by simpa using hj
  exact ⟨v, by simp, h.below ((Below.refl _ w).alloc (Nat.le_refl _) _)⟩
theorem sum_calls (A : Option Addr) (l c : Nat) (rows : List (List B8)) (w : World) (hR : Rws w (.slice A l c) rows) :
    Calls Try.prog 20 #[.slice A l c] w fun e w' => e = .returned (.int .u32 (nb (moreW 0 rows.flatten))) ∧ Below w.heap.size w w' := by
  have HR := Lib.hid hR
  clear hR
  go_enter Try.func20, Try.ntmps20
  go_wp2_with (go_at_call 34; refine (more_calls 0#32 _ rows _ HR.out).mono ?_; rintro e w2 ⟨rfl, hb⟩)
  go_ret
  exact ⟨rfl, hb⟩
theorem sum1_calls (v : Value) (bs : List B8) (w W : World) (hw : W = w.alloc (.cells #[v] 29)) (hb : Bys w v bs) :
    Calls Try.prog 20 #[.slice (some ⟨w.heap.size, 0, none⟩) 1 1] W fun e w' => e = .returned (.int .u32 (nb (moreW 0 bs))) ∧ Below W.heap.size W w' := by
  subst hw
  have := sum_calls _ _ _ _ _ (rws_one hb)
  simpa using this
theorem mor_calls (sum : W32) (A : Option Addr) (c : Nat) (bs : List B8) (w : World) (hb : Bys w (.slice A bs.length c) bs) :
    Calls Try.prog 22 #[.int .u32 (nb sum), .slice A bs.length c] w fun e w' => e = .returned (.int .u32 (nb (moreW sum bs))) ∧ Below w.heap.size w w' := by
  have HR := Lib.hid (rws_one hb)
  clear hb
  go_enter Try.func22, Try.ntmps22
  go_wp2_with (go_at_call 34; refine (more_calls sum _ [bs] _ HR.out).mono ?_; rintro e w2 ⟨rfl, hb⟩; simp only [List.flatten_cons, List.flatten_nil, List.append_nil])
  go_ret
  exact ⟨rfl, ((Below.refl _ w).alloc (Nat.le_refl _) _).trans (hb.mono (by simp))⟩
theorem own8_empty (w : World) : Own8 (w.alloc (.cells #[] 5)) w.heap.size (.slice (some ⟨w.heap.size, 0, none⟩) 0 0) [] :=
  World.ownsRow_made w #[] 0 (Nat.le_refl _) (by simp [maxLen]) rfl
/-- slices.Clone: nil, or bytes of its own. -/
theorem clone_calls (v : Value) (bs : List B8) (w : World) (hb : Bys w v bs) (hl : bs.length ≤ 140737488355328) :
    Calls Try.prog 31 #[v] w fun e w' => ∃ v', e = .returned v' ∧ Own8 w' w.heap.size v' bs ∧ Below w.heap.size w w' := by
  have hq : ∀ (w : World) (a : Option Addr) (n c n' c' : Nat), (binOp .eql 29 (.slice a n c) (.slice none n' c')).run Try.prog w = .ok (.bool a.isNone) w := fun w a n c n' c' => Lib.run_eql_slice_nil w _ _ a n c n' c' Try.underlying29
  have hb' := hb
  obtain ⟨A, cap, rfl, hc1, hc2, hc3, hc4⟩ := hb'
  have HB := Lib.hid hb
  clear hb hc4
  cases A with
  | none =>
    have hcap := hc3 rfl
    subst hcap
    obtain rfl : bs = [] := List.eq_nil_of_length_eq_zero (by omega)
    go_enter Try.func31, Try.ntmps31
    go_wp2
    go_ret
    exact ⟨_, rfl, Own8.nil _ _, Below.refl _ _⟩
  | some ad =>
    clear hc3
    go_enter Try.func31, Try.ntmps31
    go_wp2_with (at_builtin; refine wpList_app8 rfl (.tmp 5) (.tmp 6) rfl w.heap.size _ _ [] bs rfl (own8_empty w) rfl (HB.out.below ((Below.refl _ w).alloc (Nat.le_refl _) _)) (by simpa using hl) (by simp) ?_; intro v' w' h1 h2 _)
    go_ret
    exact ⟨_, rfl, h1, ((Below.refl _ w).alloc (Nat.le_refl _) _).grown h2 (by simp) (fun k e => by cases e; exact Nat.le_refl _)⟩
theorem take_snoc8 (l : List B8) (k : Nat) (h : k < l.length) : l.take (k + 1) = l.take k ++ [byteAt l k] := by
  rw [List.take_add_one]
  simp [byteAt, List.getD_eq_getElem?_getD, h]
theorem ret_bool {a b : Bool} (h : a = b) : Ending.returned (.bool a) = .returned (.bool b) := by rw [h]
/-- slices.Equal -/
theorem equal_calls (v1 v2 : Value) (bs cs : List B8) (w : World) (h1 : Bys w v1 bs) (h2 : Bys w v2 cs) :
    Calls Try.prog 11 #[v1, v2] w fun e w' => e = .returned (.bool (decide (bs = cs))) ∧ ∃ n, w' = w.drewN n := by
  obtain ⟨A1, cap1, rfl, ha1, ha2, ha3, ha4⟩ := h1
  obtain ⟨A2, cap2, rfl, hb1, hb2, hb3, hb4⟩ := h2
  unfold maxLen at ha2 hb2
  have HA := Lib.hid ha4
  have HB := Lib.hid hb4
  clear ha3 ha4 hb3 hb4
  by_cases hl : bs.length = cs.length
  · have hq : ((bs.length : Int) != (cs.length : Int)) = false := by simp [hl]
    have HL := Lib.hid hl
    clear hl
    go_enter Try.func11, Try.ntmps11
    go_wp2
    go_loopw [13, 5] (fun i _ wr => ∃ k : Nat, k ≤ bs.length ∧ i = .int .i64 k ∧ Hid (bs.take k = cs.take k) ∧ ∃ n, wr = w.drewN n) (fun i _ _ => bs.length - (intOf i).toNat)
    case atStart => exact ⟨0, Nat.zero_le _, rfl, by simp [Hid], 0, rfl⟩
    case round =>
      obtain ⟨k, hk, rfl, HK, n, rfl⟩ := hrel
      by_cases hlt : k < bs.length
      · have hd : decide (k < bs.length) = true := by simpa using hlt
        have hlt2 : k < cs.length := by have := HL.out; omega
        obtain ⟨b1, o1, rfl, hc1⟩ := HA.out (by omega)
        obtain ⟨b2, o2, rfl, hc2⟩ := HB.out (by omega)
        have hx1 := hc1 k hlt
        have hx2 := hc2 k hlt2
        have i0 : (0 : Int) ≤ (k : Int) := by omega
        have i1 : (k : Int) < (bs.length : Int) := by omega
        have i2 : (k : Int) < (cs.length : Int) := by omega
        clear hc1 hc2
        by_cases he : byteAt bs k = byteAt cs k
        · have heq : (bn (byteAt bs k) != bn (byteAt cs k)) = false := by simp [he]
          have HK2 : Hid (bs.take (k + 1) = cs.take (k + 1)) := by
            show _ = _
            rw [take_snoc8 bs k hlt, take_snoc8 cs k hlt2, HK.out, he]
          clear he
          go_wp2
          go_quiet (fail)
          go_wp2
          go_roundw
          case rel => exact ⟨k + 1, by omega, by go_num, HK2, _, rfl⟩
          case measure => simp [intOf]; omega
        · have heq : (bn (byteAt bs k) != bn (byteAt cs k)) = true := by rw [bne_iff_ne]; exact fun h => he (bn_inj h)
          have hne : decide (bs = cs) = false := decide_eq_false (fun h => he (by rw [h]))
          have HN := Lib.hid hne
          clear he hne
          go_wp2
          go_quiet (fail)
          go_wp2
          go_ret
          first | exact ⟨ret_bool HN.out.symm, _, rfl⟩ | exact ⟨ret_bool HN.out.symm, _, World.drewN_drewN ..⟩
      · have hd : decide (k < bs.length) = false := by simpa using hlt
        have hy : decide (bs = cs) = true := decide_eq_true (by
          have h1 := HK.out
          have h2 := HL.out
          rwa [List.take_of_length_le (by omega), List.take_of_length_le (by omega)] at h1)
        have HN := Lib.hid hy
        clear hy
        go_wp2
        go_ret
        first | exact ⟨ret_bool HN.out.symm, _, rfl⟩ | exact ⟨ret_bool HN.out.symm, _, World.drewN_drewN ..⟩
  · have hq : ((bs.length : Int) != (cs.length : Int)) = true := by rw [bne_iff_ne]; omega
    have hne : decide (bs = cs) = false := decide_eq_false (fun h => hl (by rw [h]))
    rw [hne]
    clear hne hl
    go_enter Try.func11, Try.ntmps11
    go_wp2
    go_ret
    exact ⟨rfl, 0, rfl⟩
end Go.Proofs.Ytekbjgnlaompbaa
