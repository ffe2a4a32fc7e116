/- The reference's first record, and records joined: walks. -/
import Derived.Test.YtnhmhnejglpijaaQg
namespace Go.Proofs.Ytnhmhnejglpijaa
open Go.RowKit
set_option maxRecDepth 100000
set_option linter.unusedSimpArgs false
set_option linter.unusedVariables false
def FirstE (w : World) (r : Out (List B8)) (e : Ending) (w' : World) : Prop :=
  Below w.heap.size w w' ∧ ∃ A c, e = .returned (.tuple #[.slice A (r.get []).length c, .int .i64 r.err]) ∧ Bt w' (.slice A (r.get []).length c) (r.get [])
theorem bt_nil (w : World) : Bt w (.slice none 0 0) [] := (Own8.nil w 0).bt
set_option maxHeartbeats 2000000 in
theorem rfirst_calls (v : Value) (bs : List B8) (w : World) (hb : Bys w v bs) (hl : bs.length ≤ 1099511627776) :
    Calls Try.prog 51 #[v] w (FirstE w (firstW bs)) := by
  obtain ⟨A, cap, rfl, hc1, hc2, _⟩ := id hb
  unfold maxLen at hc2
  by_cases h4 : bs.length < 4
  · have hf : firstW bs = .error 110 := by rw [firstW, if_pos h4]
    have hd : decide ((bs.length : Int) < 4) = true := decide_eq_true (by omega)
    have hd2 : decide (bs.length < 4) = true := decide_eq_true (by omega)
    rw [hf]
    clear hf hb h4
    go_enter Try.func51, Try.ntmps51
    go_wp2
    go_ret2
    exact ⟨Below.refl _ _, none, 0, rfl, bt_nil _⟩
  · have hd : decide ((bs.length : Int) < 4) = false := decide_eq_false (by omega)
    have hd2 : decide (bs.length < 4) = false := decide_eq_false (by omega)
    have HT := Lib.hid (hb.take 4 (by omega))
    have HTL : Hid ((bs.take 4).length ≤ 8) := Lib.hid (by rw [List.length_take]; omega)
    have b4 : (4 : Int) ≤ (cap : Int) := by omega
    have hnn : numB (bs.take 4) < 4294967296 := by
      have h := numB_lt (bs.take 4)
      have h2 : (bs.take 4).length = 4 := by rw [List.length_take]; omega
      rw [h2] at h
      exact h
    have hN := rnumber_calls (.slice A 4 cap) (bs.take 4)
    have HN : Hid (∀ w, Bys w (.slice A 4 cap) (bs.take 4) → (bs.take 4).length ≤ 8 → Calls Try.prog 88 #[.slice A 4 cap] w fun e w' => e = .returned (.int .u64 (numB (bs.take 4))) ∧ w = w') := Lib.hid hN
    have hcl : IntKind.u64.wrap (bs.length : Int) = (bs.length : Int) := by rw [IntKind.wrap_u64]; omega
    have HF : Hid (firstW bs = if 65536 < numB (bs.take 4) then .error 3 else if bs.length < numB (bs.take 4) + 8 then .error 110
      else match openedW (bs.take (numB (bs.take 4) + 8)) with
        | none => .error 120
        | some l => .ok (l.drop 4)) := Lib.hid (by rw [firstW, if_neg h4]; rfl)
    clear hN h4
    generalize numB (bs.take 4) = n at *
    by_cases hn : 65536 < n
    · have hf : firstW bs = .error 3 := by rw [HF.out, if_pos hn]
      have d1 : decide ((n : Int) > 65536) = true := decide_eq_true (by omega)
      have d2 : decide (65536 < n) = true := decide_eq_true (by omega)
      rw [hf]
      clear hf hb hn
      go_enter Try.func51, Try.ntmps51
      go_wp2_with (go_at_call 88; (with_reducible refine (HN.out _ HT.out HTL.out).mono ?_); rintro e w' ⟨rfl, rfl⟩)
      go_ret2
      exact ⟨Below.refl _ _, none, 0, rfl, bt_nil _⟩
    · have d1 : decide ((n : Int) > 65536) = false := decide_eq_false (by omega)
      have d2 : decide (65536 < n) = false := decide_eq_false (by omega)
      by_cases hs : bs.length < n + 8
      · have hf : firstW bs = .error 110 := by rw [HF.out, if_neg hn, if_pos hs]
        have d3 : decide ((bs.length : Int) < (n : Int) + 8) = true := decide_eq_true (by omega)
        rw [hf]
        clear hf hb hs
        go_enter Try.func51, Try.ntmps51
        go_wp2_with (go_at_call 88; (with_reducible refine (HN.out _ HT.out HTL.out).mono ?_); rintro e w' ⟨rfl, rfl⟩)
        go_ret2
        exact ⟨Below.refl _ _, none, 0, rfl, bt_nil _⟩
      · have d3 : decide ((bs.length : Int) < (n : Int) + 8) = false := decide_eq_false (by omega)
        have d4 : (n : Int) + 8 ≤ (bs.length : Int) := by omega
        have d5 : (n : Int) + 8 ≤ (cap : Int) := by omega
        have HM := Lib.hid (hb.take (n + 8) (by omega))
        have HML : Hid ((bs.take (n + 8)).length ≤ 1099511627776 ∧ 4 ≤ (bs.take (n + 8)).length) := Lib.hid (by rw [List.length_take]; omega)
        have hle : (bs.take (n + 8)).length = n + 8 := by rw [List.length_take]; omega
        have HLE := Lib.hid hle
        clear hle
        cases ho : openedW (bs.take (n + 8)) with
        | none =>
          have hf : firstW bs = .error 120 := by rw [HF.out, if_neg hn, if_neg hs, ho]
          have HO := Lib.hid ho
          rw [hf]
          clear hf hb hs hn ho
          go_enter Try.func51, Try.ntmps51
          go_wp2_with (first
            | (go_at_call 88; (with_reducible refine (HN.out _ HT.out HTL.out).mono ?_); rintro e w' ⟨rfl, rfl⟩)
            | (go_at_call 89; (with_reducible refine (ropen_calls _ (bs.take (n + 8)) _ HM.out HML.out.2 HML.out.1).mono ?_); rw [openedR_eq, HO.out]; rintro e w1 ⟨hb1, rfl⟩))
          go_ret2
          exact ⟨hb1, none, 0, rfl, bt_nil _⟩
        | some l =>
          have hf : firstW bs = .ok (l.drop 4) := by rw [HF.out, if_neg hn, if_neg hs, ho]
          have HO := Lib.hid ho
          obtain ⟨hle2, hl4⟩ := opened_len ho
          have hll : l.length = n + 4 := by rw [hle2, List.length_take, HLE.out]; omega
          rw [hf]
          have HLL := Lib.hid hll
          clear hf hb hs hn ho hle2 hl4 hll
          go_enter Try.func51, Try.ntmps51
          go_wp2_with (go_at_call 88; (with_reducible refine (HN.out _ HT.out HTL.out).mono ?_); rintro e w' ⟨rfl, rfl⟩)
          go_at_call 89
          refine (ropen_calls _ (bs.take (n + 8)) _ HM.out HML.out.2 HML.out.1).mono ?_
          rw [openedR_eq, HO.out]
          rintro e w2 ⟨hb2, hr2⟩
          obtain ⟨v2, rfl, ho2⟩ := hr2
          obtain ⟨g, c, e2, _, _, hgc, hcm⟩ := own8_some ho2 (by have := HLL.out; omega)
          rw [HLL.out] at e2 hgc
          subst e2
          unfold maxLen at hcm
          have HB2 := Lib.hid hb2
          have HO2 : Hid ((c ≠ 4 → Bt w2 (.slice (some ⟨g, 4, none⟩) n (c - 4)) (l.drop 4)) ∧ (c = 4 → Bt w2 (.slice (some ⟨g, 0, none⟩) n 0) (l.drop 4))) := Lib.hid (by
            have h := ho2
            rw [← HLL.out] at h
            have := held_bt h (by have := HLL.out; omega)
            rwa [show l.length - 4 = n by have := HLL.out; omega] at this)
          have HDL : Hid ((l.drop 4).length = n) := Lib.hid (by have := HLL.out; rw [List.length_drop]; omega)
          have c1 : (n : Int) + 4 ≤ (c : Int) := by omega
          clear hb2 ho2
          by_cases hc4 : c = 4
          · have HBTN := Lib.hid (HO2.out.2 hc4)
            obtain rfl : n = 0 := by omega
            subst hc4
            go_wp2
            go_ret2
            refine ⟨HB2.out, some ⟨g, 0, none⟩, 0, ?_, ?_⟩
            · show _ = Ending.returned (.tuple #[.slice _ (l.drop 4).length _, _])
              rw [HDL.out]
              rfl
            · show Bt _ (.slice _ (l.drop 4).length _) (l.drop 4)
              rw [HDL.out]
              exact HBTN.out
          · have HBTN := Lib.hid (HO2.out.1 hc4)
            have c2 : (4 : Int) < (c : Int) := by omega
            have c3 : ¬ ((c : Int) = 4) := by omega
            have c4 : (c = 4) = False := eq_false hc4
            clear hc4
            go_wp2
            go_ret2
            refine ⟨HB2.out, some ⟨g, 4, none⟩, c - 4, ?_, ?_⟩
            · show _ = Ending.returned (.tuple #[.slice _ (l.drop 4).length _, _])
              rw [HDL.out]
              rfl
            · show Bt _ (.slice _ (l.drop 4).length _) (l.drop 4)
              rw [HDL.out]
              exact HBTN.out
set_option maxHeartbeats 2000000 in
theorem rjoin_calls (v : Value) (rows : List (List B8)) (w : World) (hv : RwsA w v rows) (hn : rows.length ≤ 1000) :
    Calls Try.prog 39 #[v] w fun e w' => ∃ v', e = .returned (.tuple #[v', .bool (okRows rows)]) ∧ Own8 w' w.heap.size v' ((joinO rows).get []) ∧ Below w.heap.size w w' := by
  obtain ⟨A, cap, rfl, h1, h2, h3⟩ := hv
  unfold maxLen at h2
  have HC := Lib.hid h3
  have HN := Lib.hid hn
  clear h3 hn
  go_enter Try.func39, Try.ntmps39
  go_wp2
  go_loopw [4, 9] (fun s4 i wr => ∃ k : Nat, k ≤ rows.length ∧ i = .int .i64 k ∧ Hid (JnR w rows k s4 wr)) (fun _ i _ => rows.length - (intOf i).toNat)
  case atStart => exact ⟨0, Nat.zero_le _, rfl, Lib.hid ⟨Below.refl _ w, Own8.nil _ _, fun j hj => absurd hj (Nat.not_lt_zero _)⟩⟩
  case round =>
    obtain ⟨k, hk, rfl, HR⟩ := hrel
    by_cases hlt : k < rows.length
    · have hd : decide (k < rows.length) = true := by simpa using hlt
      obtain ⟨b, off, rfl, hcell⟩ := HC.out (by omega)
      obtain ⟨sv, k1, k4⟩ := hcell k hlt
      have hbw := HR.out.below
      have d1 := (hbw.cell (p := ⟨b, off + k, none⟩) (World.block_lt_of_cell? w _ k1)).trans k1
      have HY := Lib.hid (k4.below hbw)
      obtain ⟨A', c', rfl, _⟩ := k4
      have i0 : (0 : Int) ≤ (k : Int) := by omega
      have i1 : (k : Int) < (rows.length : Int) := by omega
      clear hcell k1 hbw
      by_cases hl : (rowAt rows k).length ≤ 65536
      · have HL := Lib.hid hl
        have hg : decide (((rowAt rows k).length : Int) > 65536) = false := decide_eq_false (by omega)
        have hg2 : decide (65536 < (rowAt rows k).length) = false := decide_eq_false (by omega)
        have HLEN : Hid ((joinW (rows.take k)).length + (recW (rowAt rows k)).length ≤ 1099511627776) := Lib.hid (by have := HR.out.len hk HN.out; rw [recW_length]; omega)
        have HL1 : Hid ((rowAt rows k).length ≤ 1000000) := Lib.hid (by omega)
        clear hl
        go_wp2_with (first
          | (go_at_call 41; (with_reducible refine (rrecord_calls _ (rowAt rows k) _ HY.out HL1.out).mono ?_); rintro e w1 ⟨v1, rfl, ho1, hb1⟩)
          | (go_at_call 44; (with_reducible refine (rbehind_calls _ _ (joinW (rows.take k)) (recW (rowAt rows k)) _ (HR.out.own.below hb1).bys ho1.bys HLEN.out).mono ?_); rintro e w2 ⟨v2, rfl, ho2, hb2⟩))
        have HR2 : Hid (JnR w rows (k + 1) v2 w2) := Lib.hid ⟨below_tr (below_tr HR.out.below hb1) hb2, by rw [joinW_snoc rows k hlt]; exact ho2.base (Nat.le_trans HR.out.below.size hb1.size), fun j hj => by
          by_cases e : j = k
          · subst e; exact HL.out
          · exact HR.out.ok j (by omega)⟩
        clear ho1 hb1 ho2 hb2
        go_wp2
        go_roundw
        case rel => exact ⟨k + 1, by omega, by go_num, HR2⟩
        case measure => simp [intOf]; omega
      · have hg : decide (((rowAt rows k).length : Int) > 65536) = true := decide_eq_true (by omega)
        have hg2 : decide (65536 < (rowAt rows k).length) = true := decide_eq_true (by omega)
        have hj := okRows_no hlt hl
        have ho : okRows rows = false := by
          cases h : okRows rows with
          | false => rfl
          | true => rw [joinO, if_pos h] at hj; cases hj
        have HJ := Lib.hid hj
        have HO := Lib.hid ho
        clear hl hj ho
        go_wp2
        go_ret2
        exact ⟨.slice none 0 0, by rw [HO.out]; rfl, by rw [HJ.out]; exact Own8.nil _ _, HR.out.below⟩
    · have hd : decide (k < rows.length) = false := by simpa using hlt
      have hk : k = rows.length := by omega
      have hj : joinO rows = .ok (joinW rows) := okRows_yes fun j hj => HR.out.ok j (by omega)
      have ho : okRows rows = true := by
        cases h : okRows rows with
        | true => rfl
        | false => rw [joinO, if_neg (by rw [h]; decide)] at hj; cases hj
      have HE : Hid (rows.take k = rows) := Lib.hid (by rw [hk, List.take_length])
      have HJ := Lib.hid hj
      have HO := Lib.hid ho
      clear hk hj ho
      go_wp2
      go_ret2
      exact ⟨_, by rw [HO.out]; rfl, by rw [HJ.out]; have := HR.out.own; rwa [HE.out] at this, HR.out.below⟩
end Go.Proofs.Ytnhmhnejglpijaa
