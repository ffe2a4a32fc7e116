/- journal: Cut, Why: the walks. -/
import Derived.Test.YtnhmhnejglpijaaQu
namespace Go.Proofs.Ytnhmhnejglpijaa
open Go.RowKit
set_option maxRecDepth 100000
set_option linter.unusedSimpArgs false
set_option linter.unusedVariables false
theorem Bt.bys {w : World} {v : Value} {bs : List B8} (h : Bt w v bs) : Bys w v bs := h.1
def endW (bs : List B8) : Nat := endL (recAt bs 0)
theorem scan_ends (bs : List B8) : ∀ (m k : Nat) (pre : List (Nat × List B8)), bs.length - k ≤ m → ScanR bs pre k → ∃ n, recAt bs 0 = pre ++ recAt bs k ∧ endW bs ≤ bs.length ∧ firstW (bs.drop (endW bs)) = .error n := by
  intro m
  induction m with
  | zero =>
    intro k pre hm h
    have hk := h.le
    cases hf : firstW (bs.drop k) with
    | error n =>
      have hd := h.done hf
      exact ⟨n, h.eq, by unfold endW; rw [← hd.2]; exact hk, by unfold endW; rw [← hd.2]; exact hf⟩
    | ok x =>
      have := (h.next hf).le
      omega
  | succ m ih =>
    intro k pre hm h
    have hk := h.le
    cases hf : firstW (bs.drop k) with
    | error n =>
      have hd := h.done hf
      exact ⟨n, h.eq, by unfold endW; rw [← hd.2]; exact hk, by unfold endW; rw [← hd.2]; exact hf⟩
    | ok x =>
      obtain ⟨n, h1, h2, h3⟩ := ih _ _ (by omega) (h.next hf)
      exact ⟨n, h.eq, h2, h3⟩
theorem endW_le (bs : List B8) : endW bs ≤ bs.length := (scan_ends bs bs.length 0 [] (by omega) (ScanR.start bs)).choose_spec.2.1
theorem endW_err (bs : List B8) : ∃ n, firstW (bs.drop (endW bs)) = .error n := ⟨_, (scan_ends bs bs.length 0 [] (by omega) (ScanR.start bs)).choose_spec.2.2⟩
/-- why no more is scanned -/
def whyW (bs : List B8) : Int := if endW bs = bs.length then 0 else (firstW (bs.drop (endW bs))).err
def cutW (bs : List B8) : List B8 := bs.take (endW bs)
theorem scan_calls' (A : Option Addr) (cap : Nat) (bs : List B8) (w : World) (hb : Bt w (.slice A bs.length cap) bs) (hl : bs.length ≤ 1000000) :
    Calls Try.prog 46 #[.slice A bs.length cap] w fun e w' => ∃ A' c', e = .returned (.tuple #[.slice A' (heldL (recAt bs 0)).length c', .int .i64 (endW bs : Int)]) ∧ OwnRs (fun W v bs => Own8 W w.heap.size v bs) w' w.heap.size (.slice A' (heldL (recAt bs 0)).length c') (heldL (recAt bs 0)) ∧ Below w.heap.size w w' :=
  (scan_calls _ bs w hb hl).mono (by
    rintro e w' ⟨v', rfl, h1, h2⟩
    obtain ⟨A', c', rfl, _⟩ := h1.shape
    exact ⟨A', c', rfl, h1, h2⟩)
set_option maxHeartbeats 2000000 in
theorem cut_calls (v : Value) (bs : List B8) (w : World) (hb : Bt w v bs) (hl : bs.length ≤ 1000000) :
    Calls Try.prog 50 #[v] w fun e w' => ∃ v', e = .returned v' ∧ Own8 w' w.heap.size v' (cutW bs) ∧ Below w.heap.size w w' := by
  obtain ⟨A, cap, rfl, hc1, hc2, _⟩ := id hb.1
  unfold maxLen at hc2
  have HB := Lib.hid hb
  clear hb
  have he := endW_le bs
  obtain ⟨k, hk⟩ : ∃ k, endW bs = k := ⟨_, rfl⟩
  have HSC : Hid (Calls Try.prog 46 #[.slice A bs.length cap] w fun e w' => ∃ A' c' m, e = .returned (.tuple #[.slice A' m c', .int .i64 (k : Int)]) ∧ Below w.heap.size w w') := Lib.hid ((scan_calls' A cap bs w HB.out hl).mono (by
    rintro e w' ⟨A', c', rfl, h1, h2⟩
    exact ⟨A', c', _, by rw [hk], h2⟩))
  have HT : Hid (Bt w (.slice A k cap) (cutW bs)) := Lib.hid (by rw [cutW, hk]; exact HB.out.take k (by omega))
  have HLC : Hid ((cutW bs).length = k) := Lib.hid (by rw [cutW, hk, List.length_take]; omega)
  rw [hk] at he
  have hkc : (k : Int) ≤ (cap : Int) := by omega
  have HKL : Hid (k ≤ 1000000) := Lib.hid (by omega)
  clear hl hk
  go_enter Try.func50, Try.ntmps50
  go_wp2_with (first
    | (go_at_call 46; refine HSC.out.mono ?_; rintro e w1 ⟨A', c', m, rfl, hb1⟩)
    | (go_at_call 37; go_loud ((with_reducible refine (clone_calls _ (cutW bs) _ (HT.out.below hb1).bys (by rw [HLC.out]; have := HKL.out; omega)).mono ?_); rintro e w2 ⟨v2, rfl, ho2, hb2⟩)))
  go_ret
  exact ⟨v2, rfl, ho2.base hb1.size, hb1.trans (hb2.mono hb1.size)⟩
set_option maxHeartbeats 2000000 in
theorem why_calls (v : Value) (bs : List B8) (w : World) (hb : Bt w v bs) (hl : bs.length ≤ 1000000) :
    Calls Try.prog 47 #[v] w fun e w' => e = .returned (.tuple #[.int .i64 (endW bs : Int), .int .i64 (whyW bs)]) ∧ Below w.heap.size w w' := by
  obtain ⟨A, cap, rfl, hc1, hc2, _⟩ := id hb.1
  unfold maxLen at hc2
  have HB := Lib.hid hb
  clear hb
  have he := endW_le bs
  obtain ⟨k, hk⟩ : ∃ k, endW bs = k := ⟨_, rfl⟩
  have HSC : Hid (Calls Try.prog 46 #[.slice A bs.length cap] w fun e w' => ∃ A' c' m, e = .returned (.tuple #[.slice A' m c', .int .i64 (k : Int)]) ∧ Below w.heap.size w w') := Lib.hid ((scan_calls' A cap bs w HB.out hl).mono (by
    rintro e w' ⟨A', c', rfl, h1, h2⟩
    exact ⟨A', c', _, by rw [hk], h2⟩))
  rw [hk] at he
  by_cases hkl : k = bs.length
  · have HW : Hid (whyW bs = 0) := Lib.hid (by rw [whyW, if_pos (by omega)])
    rw [hk]
    have hd : ((k : Int) == (bs.length : Int)) = true := beq_iff_eq.2 (by omega)
    have HK := Lib.hid hkl
    clear hl hk hkl he
    go_enter Try.func47, Try.ntmps47
    go_wp2_with (go_at_call 46; refine HSC.out.mono ?_; rintro e w1 ⟨A', c', m, rfl, hb1⟩)
    go_ret2
    exact ⟨by rw [HW.out]; rfl, hb1⟩
  · obtain ⟨A2, c2, hrun, hcc, hnc, hby⟩ := slice_from A bs.length cap k he hc1
    have HW : Hid (whyW bs = (firstW (bs.drop k)).err) := Lib.hid (by rw [whyW, if_neg (by omega), hk])
    rw [hk]
    have HY := Lib.hid ((hby w bs rfl).2 HB.out)
    have hd : ((k : Int) == (bs.length : Int)) = false := beq_eq_false_iff_ne.2 (by omega)
    have HL : Hid ((bs.drop k).length ≤ 1099511627776) := Lib.hid (by rw [List.length_drop]; omega)
    have k0 : (0 : Int) ≤ (k : Int) := by omega
    have k1 : (k : Int) ≤ (bs.length : Int) := by omega
    clear hl hk hkl hby
    go_enter Try.func47, Try.ntmps47
    go_wp2_with (first
      | (go_at_call 46; refine HSC.out.mono ?_; rintro e w1 ⟨A', c', m, rfl, hb1⟩)
      | (go_at_call 52; (with_reducible refine (jfirst_calls _ (bs.drop k) _ (HY.out.below hb1).bys HL.out).mono ?_); rintro e w2 ⟨v2, rfl, ho2, hb2⟩))
    go_ret2
    exact ⟨by rw [HW.out]; rfl, hb1.trans (hb2.mono hb1.size)⟩
end Go.Proofs.Ytnhmhnejglpijaa
