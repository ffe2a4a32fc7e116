/- journal: the first record: walks. -/
import Derived.Test.YtnhmhnejglpijaaQf
namespace Go.Proofs.Ytnhmhnejglpijaa
open Go.RowKit
set_option maxRecDepth 100000
set_option linter.unusedSimpArgs false
set_option linter.unusedVariables false
/-- what the record holds with which bytes begin, or the error -/
def firstW (bs : List B8) : Out (List B8) :=
  if bs.length < 4 then .error 110 else if 65536 < numB (bs.take 4) then .error 3 else if bs.length < numB (bs.take 4) + 8 then .error 110
  else match openedW (bs.take (numB (bs.take 4) + 8)) with
    | none => .error 120
    | some l => .ok (l.drop 4)
theorem opened_len {bs l : List B8} (h : openedW bs = some l) : l = bs.take (bs.length - 4) ∧ 4 ≤ bs.length := by
  unfold openedW at h
  split at h
  · cases h
  · split at h
    · cases h
      exact ⟨rfl, by omega⟩
    · cases h
def FoundE (w : World) (r : Out (List B8)) (e : Ending) (w' : World) : Prop :=
  Below w.heap.size w w' ∧ match r with
  | .ok h => ∃ A c, e = .returned (.agg #[.slice A h.length c, .int .i64 ((h.length : Int) + 8)]) ∧ Bt w' (.slice A h.length c) h
  | .error n => e = errP n
theorem Bt.set_far {w : World} {g j T : Nat} {c : Array Value} {f : Nat × Nat} {v y : Value} {bs : List B8} (h : Bt w v bs) (hh : w.heap[g]? = some (.cells c T f)) (h5 : T ≠ 5) : Bt (w.setCell ⟨g, j, none⟩ y) v bs :=
  h.kept (grownBy_set w g j y) (noBytes_of hh h5)
/-- opened bytes, the first four struck -/
theorem held_bt {w : World} {B g c : Nat} {l : List B8} (h : Own8 w B (.slice (some ⟨g, 0, none⟩) l.length c) l) (h4 : 4 ≤ l.length) :
    (c ≠ 4 → Bt w (.slice (some ⟨g, 4, none⟩) (l.length - 4) (c - 4)) (l.drop 4)) ∧ (c = 4 → Bt w (.slice (some ⟨g, 0, none⟩) (l.length - 4) 0) (l.drop 4)) := by
  obtain ⟨cur, ht⟩ := own8_type h g rfl
  have hbys := h.bys
  obtain ⟨A', cap, e, hc1, hc2, _⟩ := id hbys
  cases e
  refine ⟨fun hc => ⟨?_, fun b off n c' e _ => ?_⟩, fun hc => ?_⟩
  · have := hbys.drop 4 (l.length - 4) (c - 4) (by omega) rfl
    simpa using this
  · cases e
    exact ⟨cur, _, ht⟩
  · have hl : l.length = 4 := by omega
    have hd : l.drop 4 = [] := List.drop_eq_nil_of_le (by omega)
    rw [hd]
    exact ⟨⟨_, 0, by rw [hl]; rfl, Nat.le_refl _, by simp [maxLen], (fun _ => rfl), fun h => by simp at h⟩, fun b off n c' e h0 => by simp at h0⟩
theorem found_end {w2 : World} {a : Nat} {x y S : Value} {s : Int} (hx : w2.heap[a]? = some (.cells #[x, y] 121 (0, 0))) :
    ((w2.setCell ⟨a, 0, none⟩ S).setCell ⟨a, 1, none⟩ (.int .i64 s)).heap[a]? = some (.cells #[S, .int .i64 s] 121 (0, 0)) ∧ (∀ v bs, Bt w2 v bs → Bt ((w2.setCell ⟨a, 0, none⟩ S).setCell ⟨a, 1, none⟩ (.int .i64 s)) v bs) := by
  have h1 := heap_setCell_same w2 a 0 S _ _ _ hx
  have h2 := heap_setCell_same _ a 1 (.int .i64 s) _ _ _ h1
  exact ⟨by simpa using h2, fun v bs h => (h.set_far hx (by decide)).set_far h1 (by decide)⟩
set_option maxHeartbeats 2000000 in
theorem first_ok (v : Value) (bs : List B8) (h : List B8) (w : World) (hb : Bys w v bs) (hl : bs.length ≤ 1099511627776) (hf : firstW bs = .ok h) :
    Calls Try.prog 92 #[v] w (FoundE w (.ok h)) := by
  obtain ⟨A, cap, rfl, hc1, hc2, _⟩ := id hb
  unfold maxLen at hc2
  have hg : get4 bs = .ok (numB (bs.take 4)) := by
    unfold firstW at hf
    by_cases h4 : bs.length < 4
    · rw [if_pos h4] at hf; cases hf
    · rw [get4, if_neg h4]
  have hG := get_calls (.slice A bs.length cap) bs
  rw [hg] at hG
  have HG : Hid (∀ w, Bys w (.slice A bs.length cap) bs → bs.length ≤ 1099511627776 → Calls Try.prog 117 #[.slice A bs.length cap, .int .i64 0, .int .i64 4] w fun e w' => e = .returned (.tuple #[.int .u64 (numB (bs.take 4)), .int .i64 0]) ∧ Below w.heap.size w w') := Lib.hid hG
  clear hG hg
  obtain ⟨h4, hn, hs, l, ho, rfl⟩ : ¬ bs.length < 4 ∧ numB (bs.take 4) ≤ 65536 ∧ numB (bs.take 4) + 8 ≤ bs.length ∧ ∃ l, openedW (bs.take (numB (bs.take 4) + 8)) = some l ∧ h = l.drop 4 := by
    unfold firstW at hf
    by_cases h4 : bs.length < 4
    · rw [if_pos h4] at hf; cases hf
    · rw [if_neg h4] at hf
      by_cases hn : 65536 < numB (bs.take 4)
      · rw [if_pos hn] at hf; cases hf
      · rw [if_neg hn] at hf
        by_cases hs : bs.length < numB (bs.take 4) + 8
        · rw [if_pos hs] at hf; cases hf
        · rw [if_neg hs] at hf
          cases ho : openedW (bs.take (numB (bs.take 4) + 8)) with
          | none => rw [ho] at hf; cases hf
          | some l =>
            rw [ho] at hf
            cases hf
            exact ⟨h4, by omega, by omega, l, rfl, rfl⟩
  clear hf
  generalize numB (bs.take 4) = n at *
  obtain ⟨hle, hl4⟩ := opened_len ho
  have hlen : l.length = n + 4 := by rw [hle, List.length_take, List.length_take]; omega
  have hdl : (l.drop 4).length = n := by rw [List.length_drop]; omega
  obtain ⟨b0, off0, rfl⟩ : ∃ b0 off0, A = some ⟨b0, off0, none⟩ := by
    obtain ⟨A', cap', e, _, _, _, h5⟩ := id hb
    cases e
    obtain ⟨b, off, e, _⟩ := h5 (by omega)
    exact ⟨b, off, e⟩
  have HT : Hid (Bys w (.slice (some ⟨b0, off0, none⟩) (n + 8) (n + 8)) (bs.take (n + 8))) := Lib.hid ((hb.take (n + 8) (by omega)).recap (n + 8) (Nat.le_refl _) (by omega))
  have HTL : Hid ((bs.take (n + 8)).length ≤ 1099511627776) := Lib.hid (by rw [List.length_take]; omega)
  have HO := Lib.hid ho
  have HB := Lib.hid hb
  have HL := Lib.hid hl
  have HLEN := Lib.hid hlen
  have HDL := Lib.hid hdl
  have d1 : decide ((n : Int) ≤ 65536) = true := decide_eq_true (by omega)
  have d2 : decide (n ≤ 65536) = true := decide_eq_true (by omega)
  have d3 : decide ((bs.length : Int) ≥ (n : Int) + 8) = true := decide_eq_true (by omega)
  have d4 : decide ((n : Int) + 8 ≤ (bs.length : Int)) = true := decide_eq_true (by omega)
  have cv : IntKind.i64.wrap (n : Int) = (n : Int) := by rw [IntKind.wrap_i64]; omega
  have b1 : (n : Int) + 8 ≤ (bs.length : Int) := by omega
  have b2 : (n : Int) + 8 ≤ (cap : Int) := by omega
  clear hb ho hle hl hlen hdl h4 hl4
  go_enter Try.func92, Try.ntmps92
  go_wp2_with (first
    | (go_at_call 117; (with_reducible refine (HG.out _ (HB.out.below (below_al (Below.refl _ _) _)) HL.out).mono ?_); rintro e w1 ⟨rfl, hb1⟩; (have hbt1 := below_tr (below_al (Below.refl _ w) (.cells #[.slice none 0 0, .int .i64 0] 121)) hb1); (have hx1 := (hb1.block _ (lt_of_heap (new_here w (.cells #[.slice none 0 0, .int .i64 0] 121)))).trans (new_here w (.cells #[.slice none 0 0, .int .i64 0] 121))); (have HBT1 := Lib.hid hbt1); (have HX1 := Lib.hid hx1); (clear hb1 hbt1 hx1))
    | (go_at_call 84; (with_reducible refine (need84_ok _ _).mono ?_); rintro e w' ⟨rfl, rfl⟩)
    | fail)
  go_at_call 56
  refine (open_all _ (bs.take (n + 8)) _ (HT.out.below HBT1.out) HTL.out).mono ?_
  rintro e w2 ⟨hb2, hr2⟩
  rw [HO.out] at hr2
  obtain ⟨v2, rfl, ho2⟩ := hr2
  obtain ⟨g, c, e2, _, _, hgc, hcm⟩ := own8_some ho2 (by have := HLEN.out; omega)
  rw [HLEN.out] at e2 hgc
  subst e2
  unfold maxLen at hcm
  have hx2 := (hb2.block _ (lt_of_heap HX1.out)).trans HX1.out
  have x0 : w2.cell? ⟨w.heap.size, 0, none⟩ = some (.slice none 0 0) := cell_of_heap hx2
  have x1 : w2.cell? ⟨w.heap.size, 1, none⟩ = some (.int .i64 0) := cell_of_heap hx2
  have f0 : w2.frozen? ⟨w.heap.size, 0, none⟩ = false := free_of_heap hx2
  have f1 : w2.frozen? ⟨w.heap.size, 1, none⟩ = false := free_of_heap hx2
  have HX2 := Lib.hid hx2
  have HBT2 := Lib.hid (below_tr HBT1.out hb2)
  have HO2 : Hid ((c ≠ 4 → Bt w2 (.slice (some ⟨g, 4, none⟩) n (c - 4)) (l.drop 4)) ∧ (c = 4 → Bt w2 (.slice (some ⟨g, 0, none⟩) n 0) (l.drop 4))) := Lib.hid (by
    have h := ho2
    rw [← HLEN.out] at h
    have := held_bt h (by have := HLEN.out; omega)
    rwa [show l.length - 4 = n by have := HLEN.out; omega] at this)
  have c1 : (n : Int) + 4 ≤ (c : Int) := by omega
  clear hb2 ho2 hx2
  by_cases hc4 : c = 4
  · have HBTN := Lib.hid (HO2.out.2 hc4)
    obtain rfl : n = 0 := by omega
    subst hc4
    go_wp2_with (go_at_call 84; (with_reducible refine (need84_ok _ _).mono ?_); rintro e w' ⟨rfl, rfl⟩)
    obtain ⟨k1, k2⟩ := found_end (S := (.slice (some ⟨g, 0, none⟩) 0 0)) (s := 8) HX2.out
    have r0 : ((w2.setCell ⟨w.heap.size, 0, none⟩ (.slice (some ⟨g, 0, none⟩) 0 0)).setCell ⟨w.heap.size, 1, none⟩ (.int .i64 8)).cell? ⟨w.heap.size, 0, none⟩ = some (.slice (some ⟨g, 0, none⟩) 0 0) := cell_of_heap k1
    have r1 : ((w2.setCell ⟨w.heap.size, 0, none⟩ (.slice (some ⟨g, 0, none⟩) 0 0)).setCell ⟨w.heap.size, 1, none⟩ (.int .i64 8)).cell? ⟨w.heap.size, 1, none⟩ = some (.int .i64 8) := cell_of_heap k1
    refine bodyPost_ret (v := .agg #[(.slice (some ⟨g, 0, none⟩) 0 0), .int .i64 8]) (by simp [results, Try.results92, go_sem, r0, r1]) rfl ⟨(HBT2.out.setCell (p := ⟨w.heap.size, 0, none⟩) (Nat.le_refl _) _).setCell (p := ⟨w.heap.size, 1, none⟩) (Nat.le_refl _) _, ?_⟩
    refine ⟨some ⟨g, 0, none⟩, 0, by rw [HDL.out]; rfl, ?_⟩
    rw [HDL.out]
    exact k2 _ _ HBTN.out
  · have HBTN := Lib.hid (HO2.out.1 hc4)
    have c2 : (4 : Int) < (c : Int) := by omega
    have c3 : ¬ ((c : Int) = 4) := by omega
    have c4 : (c = 4) = False := eq_false hc4
    clear hc4
    go_wp2_with (go_at_call 84; (with_reducible refine (need84_ok _ _).mono ?_); rintro e w' ⟨rfl, rfl⟩)
    obtain ⟨k1, k2⟩ := found_end (S := (.slice (some ⟨g, 4, none⟩) n (c - 4))) (s := ((n : Int) + 8)) HX2.out
    have r0 : ((w2.setCell ⟨w.heap.size, 0, none⟩ (.slice (some ⟨g, 4, none⟩) n (c - 4))).setCell ⟨w.heap.size, 1, none⟩ (.int .i64 ((n : Int) + 8))).cell? ⟨w.heap.size, 0, none⟩ = some (.slice (some ⟨g, 4, none⟩) n (c - 4)) := cell_of_heap k1
    have r1 : ((w2.setCell ⟨w.heap.size, 0, none⟩ (.slice (some ⟨g, 4, none⟩) n (c - 4))).setCell ⟨w.heap.size, 1, none⟩ (.int .i64 ((n : Int) + 8))).cell? ⟨w.heap.size, 1, none⟩ = some (.int .i64 ((n : Int) + 8)) := cell_of_heap k1
    refine bodyPost_ret (v := .agg #[(.slice (some ⟨g, 4, none⟩) n (c - 4)), .int .i64 ((n : Int) + 8)]) (by simp [results, Try.results92, go_sem, r0, r1]) rfl ⟨(HBT2.out.setCell (p := ⟨w.heap.size, 0, none⟩) (Nat.le_refl _) _).setCell (p := ⟨w.heap.size, 1, none⟩) (Nat.le_refl _) _, ?_⟩
    refine ⟨some ⟨g, 4, none⟩, c - 4, by rw [HDL.out], ?_⟩
    rw [HDL.out]
    exact k2 _ _ HBTN.out
set_option maxHeartbeats 2000000 in
theorem first_no (v : Value) (bs : List B8) (n0 : Int) (w : World) (hb : Bys w v bs) (hl : bs.length ≤ 1099511627776) (hf : firstW bs = .error n0) :
    Calls Try.prog 92 #[v] w fun e w' => e = errP n0 ∧ Below w.heap.size w w' := by
  obtain ⟨A, cap, rfl, hc1, hc2, _⟩ := id hb
  unfold maxLen at hc2
  have hG := get_calls (.slice A bs.length cap) bs
  have HB := Lib.hid hb
  have HL := Lib.hid hl
  have HA : Hid (Below w.heap.size w (w.alloc (.cells #[.slice none 0 0, .int .i64 0] 121))) := Lib.hid (below_al (Below.refl _ _) _)
  by_cases h4 : bs.length < 4
  · have hg : get4 bs = .error 110 := by rw [get4, if_pos h4]
    rw [firstW, if_pos h4] at hf
    cases hf
    rw [hg] at hG
    have HG : Hid (∀ w, Bys w (.slice A bs.length cap) bs → bs.length ≤ 1099511627776 → Calls Try.prog 117 #[.slice A bs.length cap, .int .i64 0, .int .i64 4] w fun e w' => e = .returned (.tuple #[.int .u64 0, .int .i64 110]) ∧ Below w.heap.size w w') := Lib.hid hG
    clear hG hg hb hl h4
    go_enter Try.func92, Try.ntmps92
    go_wp2_with (first
      | (go_at_call 117; (with_reducible refine (HG.out _ (HB.out.below HA.out) HL.out).mono ?_); rintro e w1 ⟨rfl, hb1⟩)
      | (go_at_call 84; (with_reducible refine (need84_no _ _).mono ?_); rintro e w' ⟨rfl, rfl⟩))
    exact ⟨rfl, rfl, below_tr HA.out hb1⟩
  · have hg : get4 bs = .ok (numB (bs.take 4)) := by rw [get4, if_neg h4]
    rw [firstW, if_neg h4] at hf
    rw [hg] at hG
    have HG : Hid (∀ w, Bys w (.slice A bs.length cap) bs → bs.length ≤ 1099511627776 → Calls Try.prog 117 #[.slice A bs.length cap, .int .i64 0, .int .i64 4] w fun e w' => e = .returned (.tuple #[.int .u64 (numB (bs.take 4)), .int .i64 0]) ∧ Below w.heap.size w w') := Lib.hid hG
    clear hG hg
    have hnn : numB (bs.take 4) < 4294967296 := by
      have h := numB_lt (bs.take 4)
      have h2 : (bs.take 4).length = 4 := by rw [List.length_take]; omega
      rw [h2] at h
      exact h
    generalize numB (bs.take 4) = n at *
    by_cases hn : 65536 < n
    · rw [if_pos hn] at hf
      cases hf
      have d1 : decide ((n : Int) ≤ 65536) = false := decide_eq_false (by omega)
      have d2 : decide (n ≤ 65536) = false := decide_eq_false (by omega)
      clear hb hl h4 hn
      go_enter Try.func92, Try.ntmps92
      go_wp2_with (first
        | (go_at_call 117; (with_reducible refine (HG.out _ (HB.out.below HA.out) HL.out).mono ?_); rintro e w1 ⟨rfl, hb1⟩)
        | (go_at_call 84; (with_reducible refine (need84_ok _ _).mono ?_); rintro e w' ⟨rfl, rfl⟩)
        | (go_at_call 84; (with_reducible refine (need84_no _ _).mono ?_); rintro e w' ⟨rfl, rfl⟩))
      exact ⟨rfl, rfl, below_tr HA.out hb1⟩
    · rw [if_neg hn] at hf
      have d1 : decide ((n : Int) ≤ 65536) = true := decide_eq_true (by omega)
      have d2 : decide (n ≤ 65536) = true := decide_eq_true (by omega)
      have cv : IntKind.i64.wrap (n : Int) = (n : Int) := by rw [IntKind.wrap_i64]; omega
      by_cases hs : bs.length < n + 8
      · rw [if_pos hs] at hf
        cases hf
        have d3 : decide ((bs.length : Int) ≥ (n : Int) + 8) = false := decide_eq_false (by omega)
        have d4 : decide ((n : Int) + 8 ≤ (bs.length : Int)) = false := decide_eq_false (by omega)
        have d5 : (bs.length : Int) < (n : Int) + 8 := by omega
        clear hb hl h4 hn hs
        go_enter Try.func92, Try.ntmps92
        go_wp2_with (first
          | (go_at_call 117; (with_reducible refine (HG.out _ (HB.out.below HA.out) HL.out).mono ?_); rintro e w1 ⟨rfl, hb1⟩)
          | (go_at_call 84; (with_reducible refine (need84_ok _ _).mono ?_); rintro e w' ⟨rfl, rfl⟩)
          | (go_at_call 84; (with_reducible refine (need84_no _ _).mono ?_); rintro e w' ⟨rfl, rfl⟩))
        exact ⟨rfl, rfl, below_tr HA.out hb1⟩
      · rw [if_neg hs] at hf
        cases ho : openedW (bs.take (n + 8)) with
        | some l => rw [ho] at hf; cases hf
        | none =>
          rw [ho] at hf
          cases hf
          obtain ⟨b0, off0, rfl⟩ : ∃ b0 off0, A = some ⟨b0, off0, none⟩ := by
            obtain ⟨A', cap', e, _, _, _, h5⟩ := id hb
            cases e
            obtain ⟨b, off, e, _⟩ := h5 (by omega)
            exact ⟨b, off, e⟩
          have HT : Hid (Bys w (.slice (some ⟨b0, off0, none⟩) (n + 8) (n + 8)) (bs.take (n + 8))) := Lib.hid ((hb.take (n + 8) (by omega)).recap (n + 8) (Nat.le_refl _) (by omega))
          have HTL : Hid ((bs.take (n + 8)).length ≤ 1099511627776) := Lib.hid (by rw [List.length_take]; omega)
          have HO := Lib.hid ho
          have d3 : decide ((bs.length : Int) ≥ (n : Int) + 8) = true := decide_eq_true (by omega)
          have d4 : decide ((n : Int) + 8 ≤ (bs.length : Int)) = true := decide_eq_true (by omega)
          have b1 : (n : Int) + 8 ≤ (bs.length : Int) := by omega
          have b2 : (n : Int) + 8 ≤ (cap : Int) := by omega
          clear hb hl h4 hn hs ho
          go_enter Try.func92, Try.ntmps92
          go_wp2_with (first
            | (go_at_call 117; (with_reducible refine (HG.out _ (HB.out.below HA.out) HL.out).mono ?_); rintro e w1 ⟨rfl, hb1⟩; (have HBT1 := Lib.hid (below_tr HA.out hb1)); (clear hb1))
            | (go_at_call 56; (with_reducible refine (open_all _ (bs.take (n + 8)) _ (HT.out.below HBT1.out) HTL.out).mono ?_); rw [HO.out]; rintro e w2 ⟨hb2, rfl⟩)
            | (go_at_call 84; (with_reducible refine (need84_ok _ _).mono ?_); rintro e w' ⟨rfl, rfl⟩)
            | (go_at_call 84; (with_reducible refine (need84_no _ _).mono ?_); rintro e w' ⟨rfl, rfl⟩))
          exact ⟨rfl, rfl, below_tr HBT1.out hb2⟩
theorem first_calls (v : Value) (bs : List B8) (w : World) (hb : Bys w v bs) (hl : bs.length ≤ 1099511627776) : Calls Try.prog 92 #[v] w (FoundE w (firstW bs)) := by
  cases hf : firstW bs with
  | ok h => exact first_ok v bs h w hb hl hf
  | error n => exact (first_no v bs n w hb hl hf).mono fun e w' ⟨he, hb⟩ => ⟨hb, he⟩
end Go.Proofs.Ytnhmhnejglpijaa
