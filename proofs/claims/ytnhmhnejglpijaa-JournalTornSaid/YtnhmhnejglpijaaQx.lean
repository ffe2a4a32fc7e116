/- journal: Append; slices.Equal of numbers. -/
import Derived.Test.YtnhmhnejglpijaaQw
namespace Go.Proofs.Ytnhmhnejglpijaa
open Go.RowKit
set_option maxRecDepth 100000
set_option linter.unusedSimpArgs false
set_option linter.unusedVariables false
def natAt (l : List Nat) (k : Nat) : Nat := l.getD k 0
theorem take_snocI (l : List Nat) (k : Nat) (h : k < l.length) : l.take (k + 1) = l.take k ++ [natAt l k] := by
  rw [List.take_add_one]
  simp [natAt, List.getD_eq_getElem?_getD, h]
def IntsA (w : World) (v : Value) (is : List Nat) : Prop :=
  ∃ A cap, v = .slice A is.length cap ∧ is.length ≤ cap ∧ cap ≤ maxLen ∧ (0 < is.length → ∃ b off, A = some ⟨b, off, none⟩ ∧ ∀ j, j < is.length → w.cell? ⟨b, off + j, none⟩ = some (.int .i64 (natAt is j : Int)))
theorem ivals_get (is : List Nat) (j : Nat) (h : j < is.length) : (ivals is)[j]? = some (.int .i64 (natAt is j : Int)) := by simp [ivals, natAt, h]
theorem OwnIs.ints {w : World} {B : Nat} {v : Value} {is : List Nat} (h : OwnIs w B v is) : IntsA w v is := by
  have hc := fun g => World.ownsRow.cells h (g := g)
  rcases h.2 with ⟨rfl, hn⟩ | ⟨g, cap, cur, rfl, hb, hgg, hnc, hcm, _⟩
  · exact ⟨none, 0, by rw [hn], by omega, by simp [maxLen], fun h => by omega⟩
  · refine ⟨_, cap, rfl, hnc, hcm, fun _ => ⟨g, 0, rfl, fun j hj => ?_⟩⟩
    have := hc g rfl j _ (ivals_get is j hj)
    rw [add_plain] at this
    rw [Nat.zero_add]
    exact this
set_option maxHeartbeats 1000000 in
theorem equalI_calls (v1 v2 : Value) (bs cs : List Nat) (w : World) (h1 : IntsA w v1 bs) (h2 : IntsA w v2 cs) :
    Calls Try.prog 48 #[v1, v2] w fun e w' => e = .returned (.bool (decide (bs = cs))) ∧ ∃ n, w' = w.drewN n := by
  obtain ⟨A1, cap1, rfl, ha1, ha2, ha4⟩ := h1
  obtain ⟨A2, cap2, rfl, hb1, hb2, hb4⟩ := h2
  unfold maxLen at ha2 hb2
  have HA := Lib.hid ha4
  have HB := Lib.hid hb4
  clear ha4 hb4
  by_cases hl : bs.length = cs.length
  · have hq : ((bs.length : Int) != (cs.length : Int)) = false := by simp [hl]
    have HL := Lib.hid hl
    clear hl
    go_enter Try.func48, Try.ntmps48
    go_wp2
    go_loopw [13, 5] (fun i _ wr => ∃ k : Nat, k ≤ bs.length ∧ i = .int .i64 k ∧ Hid (bs.take k = cs.take k) ∧ ∃ n, wr = w.drewN n) (fun i _ _ => bs.length - (intOf i).toNat)
    case atStart => exact ⟨0, Nat.zero_le _, rfl, by simp [Hid], 0, rfl⟩
    case round =>
      obtain ⟨k, hk, rfl, HK, n, rfl⟩ := hrel
      by_cases hlt : k < bs.length
      · have hd : decide (k < bs.length) = true := by simpa using hlt
        have hlt2 : k < cs.length := by have := HL.out; omega
        obtain ⟨b1, o1, rfl, hc1⟩ := HA.out (by omega)
        obtain ⟨b2, o2, rfl, hc2⟩ := HB.out (by omega)
        have hx1 := hc1 k hlt
        have hx2 := hc2 k hlt2
        have i0 : (0 : Int) ≤ (k : Int) := by omega
        have i1 : (k : Int) < (bs.length : Int) := by omega
        have i2 : (k : Int) < (cs.length : Int) := by omega
        clear hc1 hc2
        by_cases he : natAt bs k = natAt cs k
        · have heq : ((natAt bs k : Int) != (natAt cs k : Int)) = false := by simp [he]
          have HK2 : Hid (bs.take (k + 1) = cs.take (k + 1)) := by
            show _ = _
            rw [take_snocI bs k hlt, take_snocI cs k hlt2, HK.out, he]
          clear he
          go_wp2
          go_quiet (fail)
          go_wp2
          go_roundw
          case rel => exact ⟨k + 1, by omega, by go_num, HK2, _, rfl⟩
          case measure => simp [intOf]; omega
        · have heq : ((natAt bs k : Int) != (natAt cs k : Int)) = true := by rw [bne_iff_ne]; exact fun h => he (by omega)
          have hne : decide (bs = cs) = false := decide_eq_false (fun h => he (by rw [h]))
          have HN := Lib.hid hne
          clear he hne
          go_wp2
          go_quiet (fail)
          go_wp2
          go_ret
          first | exact ⟨ret_bool HN.out.symm, _, rfl⟩ | exact ⟨ret_bool HN.out.symm, _, World.drewN_drewN ..⟩
      · have hd : decide (k < bs.length) = false := by simpa using hlt
        have hy : decide (bs = cs) = true := decide_eq_true (by
          have h1 := HK.out
          have h2 := HL.out
          rwa [List.take_of_length_le (by omega), List.take_of_length_le (by omega)] at h1)
        have HN := Lib.hid hy
        clear hy
        go_wp2
        go_ret
        first | exact ⟨ret_bool HN.out.symm, _, rfl⟩ | exact ⟨ret_bool HN.out.symm, _, World.drewN_drewN ..⟩
  · have hq : ((bs.length : Int) != (cs.length : Int)) = true := by rw [bne_iff_ne]; omega
    have hne : decide (bs = cs) = false := decide_eq_false (fun h => hl (by rw [h]))
    rw [hne]
    clear hne hl
    go_enter Try.func48, Try.ntmps48
    go_wp2
    go_ret
    exact ⟨rfl, 0, rfl⟩
set_option maxHeartbeats 1000000 in
theorem append_calls (v u : Value) (bs : List B8) (rows : List (List B8)) (w : World) (hv : Bt w v bs) (hu : RwsA w u rows) (hl : bs.length ≤ 1000000) (hn : rows.length ≤ 1000) :
    Calls Try.prog 43 #[v, u] w fun e w' => ∃ v', e = .returned (.tuple #[v', .int .i64 (appO bs rows).err]) ∧ Own8 w' w.heap.size v' ((appO bs rows).get []) ∧ Below w.heap.size w w' := by
  obtain ⟨A, cap, rfl⟩ := hv.len
  obtain ⟨A2, cap2, rfl, _⟩ := id hu
  have hmf : ∀ (fn : Fn) (first cap : Array Value) (w : World), (Instr.makeFunc fn first cap).run Try.prog w = .ok (.func fn first cap) w := fun _ _ _ _ => rfl
  have HB := Lib.hid (below_al (below_al (Below.refl _ w) (.cells #[.slice A bs.length cap] 34)) (.cells #[.slice A2 rows.length cap2] 63))
  have HP : Hid (∀ X, X = (((w.alloc (.cells #[.slice A bs.length cap] 34)).alloc (.cells #[.slice A2 rows.length cap2] 63)).alloc (.cells #[.slice none 0 0] 34)).alloc (.cells #[.int .i64 0] 28) → Calls Try.prog 83 #[.pointer (some ⟨w.heap.size, 0, none⟩), .pointer (some ⟨w.heap.size + 1, 0, none⟩)] X (Out8 X (appO bs rows))) := Lib.hid (by
    rintro X rfl
    have h2 := new_here (w.alloc (.cells #[.slice A bs.length cap] 34)) (.cells #[.slice A2 rows.length cap2] 63)
    rw [World.size_alloc] at h2
    exact app1_calls _ _ _ _ bs rows _ (cell_of_heap (new_next _ _ (new_next _ _ (new_next _ _ (new_here w _))))) (cell_of_heap (new_next _ _ (new_next _ _ h2))) (hv.below (below_al (below_al HB.out _) _)) (hu.below (below_al (below_al HB.out _) _)) hl hn)
  clear hv hu hl hn
  go_enter Try.func43, Try.ntmps43
  go_wp2_with (go_at_call 76; refine (tries76_out 83 _ (appO bs rows) _ e83 HP.out).mono ?_; rintro e w' ⟨hb, v', rfl, ho⟩)
  go_ret2
  exact ⟨_, rfl, ho.base HB.out.size, below_tr HB.out hb⟩
end Go.Proofs.Ytnhmhnejglpijaa
