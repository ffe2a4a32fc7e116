/- journal: Append: the walk. -/
import Derived.Test.YtnhmhnejglpijaaQv
import Derived.Test.YtnhmhnejglpijaaQi
import Derived.RegionTactic
namespace Go.Proofs.Ytnhmhnejglpijaa
open Go.RowKit
set_option maxRecDepth 100000
set_option linter.unusedSimpArgs false
set_option linter.unusedVariables false
theorem e83 (args : Array Value) (w : World) : (callFunc 83 args).run Try.prog w = .ok (.enter 83 args) w := enters_of Try.func83 (by kernel_rfl) rfl args w
def appO (bs : List B8) (rows : List (List B8)) : Out (List B8) := if whyW bs = 0 then (match joinO rows with | .ok x => .ok (bs ++ x) | .error n => .error n) else .error 2
theorem region_plain {id : Nat} {ops : List Oper} {Q : Exit → Act → World → Prop} {a : Act} {w : World} (k : Nat) (hk : ops.length = k) (h : wpAny Try.prog .any ops.toArray Q k (Array.replicate k false) a w.drew) : (Code.region id ops.toArray true).wp Try.prog Q a w := by
  subst hk
  exact wp_region_any (by kernel_rfl) h
theorem rws_two (w : World) (v1 v2 : Value) (b1 b2 : List B8) (h1 : Bys w v1 b1) (h2 : Bys w v2 b2) (T : TypeId) : RwsA (w.alloc (.cells #[v1, v2] T)) (.slice (some ⟨w.heap.size, 0, none⟩) 2 2) [b1, b2] := by
  refine ⟨_, 2, rfl, Nat.le_refl _, by unfold maxLen; omega, fun _ => ⟨w.heap.size, 0, rfl, fun j hj => ?_⟩⟩
  have hb := below_al (Below.refl w.heap.size w) (.cells #[v1, v2] T)
  have hc := new_here w (.cells #[v1, v2] T)
  match j, hj with
  | 0, _ => exact ⟨v1, cell_of_heap hc, h1.below hb⟩
  | 1, _ => exact ⟨v2, cell_of_heap hc, h2.below hb⟩
theorem Bt.len {w : World} {v : Value} {bs : List B8} (h : Bt w v bs) : ∃ A c, v = .slice A bs.length c := by
  obtain ⟨A, c, e, _⟩ := h.1
  exact ⟨A, c, e⟩
set_option maxHeartbeats 2000000 in
theorem app1_calls (a0 a1 : Nat) (v u : Value) (bs : List B8) (rows : List (List B8)) (W : World) (c0 : W.cell? ⟨a0, 0, none⟩ = some v) (c1 : W.cell? ⟨a1, 0, none⟩ = some u) (hv : Bt W v bs) (hu : RwsA W u rows) (hl : bs.length ≤ 1000000) (hn : rows.length ≤ 1000) :
    Calls Try.prog 83 #[.pointer (some ⟨a0, 0, none⟩), .pointer (some ⟨a1, 0, none⟩)] W (Out8 W (appO bs rows)) := by
  obtain ⟨A, cap, rfl⟩ := hv.len
  obtain ⟨A2, cap2, rfl, _⟩ := id hu
  have HV := Lib.hid hv
  have HU := Lib.hid hu
  have HL := Lib.hid hl
  have HN := Lib.hid hn
  have HW := why_calls _ bs W hv hl
  have HS : Hid (∀ X, Below W.heap.size W X → X.cell? ⟨a0, 0, none⟩ = some (.slice A bs.length cap) ∧ X.cell? ⟨a1, 0, none⟩ = some (.slice A2 rows.length cap2)) := Lib.hid (fun X hX =>
    ⟨(hX.cell (World.block_lt_of_cell? W _ c0)).trans c0, (hX.cell (World.block_lt_of_cell? W _ c1)).trans c1⟩)
  clear hv hu hl hn
  by_cases hw : whyW bs = 0
  · have HC := fun X hX => joined_calls (.slice A2 rows.length cap2) rows X hX HN.out
    have HX : Hid (appO bs rows = match joinO rows with | .ok x => .ok (bs ++ x) | .error n => .error n) := Lib.hid (by rw [appO, if_pos hw])
    rw [hw] at HW
    have HW := Lib.hid HW
    clear hw
    rw [HX.out]
    cases hj : joinO rows with
    | error n =>
      rw [hj] at HC
      have HC := Lib.hid HC
      clear hj HX
      go_enter Try.func83, Try.ntmps83
      go_wp2_with (first
        | (go_at_call 47; refine HW.out.mono ?_; rintro e w1 ⟨rfl, hb1⟩)
        | (go_at_call 84; refine (need84_ok _ _).mono ?_; rintro e w2 ⟨rfl, rfl⟩))
      refine region_plain 6 rfl ?_
      obtain ⟨X, hX⟩ : ∃ X, w1.drew = X := ⟨_, rfl⟩
      have hbX : Below W.heap.size W X := by rw [← hX]; exact hb1.drew
      obtain ⟨x0, x1⟩ := HS.out X hbX
      rw [hX]
      clear hX
      iterate 4 (all_goals (try (first
      | (refine wpAny_ready (rs := [0,1]) (by decide +kernel) (by simp) (AllReady.cons rfl (fun K hK => ?_) (AllReady.cons rfl (fun K hK => ?_) AllReady.nil)) <;> (first | (go_simp; go_at_call 78; refine (HC.out _ (HU.out.below (by repeat (with_reducible first | exact Below.refl _ _ | apply below_dr | apply below_al | assumption)))).mono ?_; rintro e w2 ⟨hb2, rfl⟩; exact ⟨rfl, below_tr hbX hb2, rfl⟩) | (go_simp; refine hK _ _ ?_; clear hK K)))
      | (refine wpAny_ready (rs := [0,2]) (by decide +kernel) (by simp) (AllReady.cons rfl (fun K hK => ?_) (AllReady.cons rfl (fun K hK => ?_) AllReady.nil)) <;> (first | (go_simp; go_at_call 78; refine (HC.out _ (HU.out.below (by repeat (with_reducible first | exact Below.refl _ _ | apply below_dr | apply below_al | assumption)))).mono ?_; rintro e w2 ⟨hb2, rfl⟩; exact ⟨rfl, below_tr hbX hb2, rfl⟩) | (go_simp; refine hK _ _ ?_; clear hK K)))
      | (refine wpAny_ready (rs := [1]) (by decide +kernel) (by simp) (AllReady.cons rfl (fun K hK => ?_) AllReady.nil) <;> (first | (go_simp; go_at_call 78; refine (HC.out _ (HU.out.below (by repeat (with_reducible first | exact Below.refl _ _ | apply below_dr | apply below_al | assumption)))).mono ?_; rintro e w2 ⟨hb2, rfl⟩; exact ⟨rfl, below_tr hbX hb2, rfl⟩) | (go_simp; refine hK _ _ ?_; clear hK K)))
      | (refine wpAny_ready (rs := [2]) (by decide +kernel) (by simp) (AllReady.cons rfl (fun K hK => ?_) AllReady.nil) <;> (first | (go_simp; go_at_call 78; refine (HC.out _ (HU.out.below (by repeat (with_reducible first | exact Below.refl _ _ | apply below_dr | apply below_al | assumption)))).mono ?_; rintro e w2 ⟨hb2, rfl⟩; exact ⟨rfl, below_tr hbX hb2, rfl⟩) | (go_simp; refine hK _ _ ?_; clear hK K))))))
    | ok x =>
      rw [hj] at HC
      have HC := Lib.hid HC
      have HT : Hid ([bs, x].flatten.length ≤ 1000000000) := Lib.hid (by
        have hx : x = joinW rows := by
          rw [joinO] at hj
          split at hj
          · cases hj
            rfl
          · cases hj
        have hok : okRows rows = true := by
          rw [joinO] at hj
          split at hj
          · assumption
          · cases hj
        have := joinW_len rows (fun r hr => by simpa using List.all_eq_true.1 hok r hr)
        have := HL.out
        have := HN.out
        rw [hx]
        simp only [List.flatten_cons, List.flatten_nil, List.append_nil, List.length_append]
        omega)
      have HFL : Hid ([bs, x].flatten = bs ++ x) := Lib.hid (by simp)
      clear hj HX
      go_enter Try.func83, Try.ntmps83
      go_wp2_with (first
        | (go_at_call 47; refine HW.out.mono ?_; rintro e w1 ⟨rfl, hb1⟩)
        | (go_at_call 84; refine (need84_ok _ _).mono ?_; rintro e w2 ⟨rfl, rfl⟩))
      refine region_plain 6 rfl ?_
      obtain ⟨X, hX⟩ : ∃ X, w1.drew = X := ⟨_, rfl⟩
      have hbX : Below W.heap.size W X := by rw [← hX]; exact hb1.drew
      obtain ⟨x0, x1⟩ := HS.out X hbX
      rw [hX]
      clear hX
      iterate 6 (all_goals (try (first
      | (refine wpAny_ready (rs := [0,1]) (by decide +kernel) (by simp) (AllReady.cons rfl (fun K hK => ?_) (AllReady.cons rfl (fun K hK => ?_) AllReady.nil)) <;> (first | (go_simp; go_at_call 78; refine (HC.out _ (HU.out.below (by repeat (with_reducible first | exact Below.refl _ _ | apply below_dr | apply below_al | assumption)))).mono ?_; rintro e w2 ⟨hb2, v2, rfl, ho2⟩; (obtain ⟨A3, c3, rfl, _⟩ := id ho2.bys); (have hbt2 := below_tr hbX hb2); (have HO2 := Lib.hid ho2); (obtain ⟨y0, y1⟩ := HS.out w2 hbt2); clear ho2; (try go_simp); refine hK _ _ ?_; clear hK K) | (go_simp; go_at_call 54; refine (concat8_calls _ [bs, x] _ (rws_two _ _ _ bs x (HV.out.bys.below hbt2) HO2.out.bys 34) HT.out).mono ?_; rintro e w3 ⟨v3, rfl, ho3, hb3⟩; (try go_simp); refine hK _ _ ?_; clear hK K) | (go_simp; refine hK _ _ ?_; clear hK K)))
      | (refine wpAny_ready (rs := [0,2]) (by decide +kernel) (by simp) (AllReady.cons rfl (fun K hK => ?_) (AllReady.cons rfl (fun K hK => ?_) AllReady.nil)) <;> (first | (go_simp; go_at_call 78; refine (HC.out _ (HU.out.below (by repeat (with_reducible first | exact Below.refl _ _ | apply below_dr | apply below_al | assumption)))).mono ?_; rintro e w2 ⟨hb2, v2, rfl, ho2⟩; (obtain ⟨A3, c3, rfl, _⟩ := id ho2.bys); (have hbt2 := below_tr hbX hb2); (have HO2 := Lib.hid ho2); (obtain ⟨y0, y1⟩ := HS.out w2 hbt2); clear ho2; (try go_simp); refine hK _ _ ?_; clear hK K) | (go_simp; go_at_call 54; refine (concat8_calls _ [bs, x] _ (rws_two _ _ _ bs x (HV.out.bys.below hbt2) HO2.out.bys 34) HT.out).mono ?_; rintro e w3 ⟨v3, rfl, ho3, hb3⟩; (try go_simp); refine hK _ _ ?_; clear hK K) | (go_simp; refine hK _ _ ?_; clear hK K)))
      | (refine wpAny_ready (rs := [1]) (by decide +kernel) (by simp) (AllReady.cons rfl (fun K hK => ?_) AllReady.nil) <;> (first | (go_simp; go_at_call 78; refine (HC.out _ (HU.out.below (by repeat (with_reducible first | exact Below.refl _ _ | apply below_dr | apply below_al | assumption)))).mono ?_; rintro e w2 ⟨hb2, v2, rfl, ho2⟩; (obtain ⟨A3, c3, rfl, _⟩ := id ho2.bys); (have hbt2 := below_tr hbX hb2); (have HO2 := Lib.hid ho2); (obtain ⟨y0, y1⟩ := HS.out w2 hbt2); clear ho2; (try go_simp); refine hK _ _ ?_; clear hK K) | (go_simp; go_at_call 54; refine (concat8_calls _ [bs, x] _ (rws_two _ _ _ bs x (HV.out.bys.below hbt2) HO2.out.bys 34) HT.out).mono ?_; rintro e w3 ⟨v3, rfl, ho3, hb3⟩; (try go_simp); refine hK _ _ ?_; clear hK K) | (go_simp; refine hK _ _ ?_; clear hK K)))
      | (refine wpAny_ready (rs := [2]) (by decide +kernel) (by simp) (AllReady.cons rfl (fun K hK => ?_) AllReady.nil) <;> (first | (go_simp; go_at_call 78; refine (HC.out _ (HU.out.below (by repeat (with_reducible first | exact Below.refl _ _ | apply below_dr | apply below_al | assumption)))).mono ?_; rintro e w2 ⟨hb2, v2, rfl, ho2⟩; (obtain ⟨A3, c3, rfl, _⟩ := id ho2.bys); (have hbt2 := below_tr hbX hb2); (have HO2 := Lib.hid ho2); (obtain ⟨y0, y1⟩ := HS.out w2 hbt2); clear ho2; (try go_simp); refine hK _ _ ?_; clear hK K) | (go_simp; go_at_call 54; refine (concat8_calls _ [bs, x] _ (rws_two _ _ _ bs x (HV.out.bys.below hbt2) HO2.out.bys 34) HT.out).mono ?_; rintro e w3 ⟨v3, rfl, ho3, hb3⟩; (try go_simp); refine hK _ _ ?_; clear hK K) | (go_simp; refine hK _ _ ?_; clear hK K)))
      | (refine wpAny_ready (rs := [0]) (by decide +kernel) (by simp) (AllReady.cons rfl (fun K hK => ?_) AllReady.nil) <;> (first | (go_simp; go_at_call 78; refine (HC.out _ (HU.out.below (by repeat (with_reducible first | exact Below.refl _ _ | apply below_dr | apply below_al | assumption)))).mono ?_; rintro e w2 ⟨hb2, v2, rfl, ho2⟩; (obtain ⟨A3, c3, rfl, _⟩ := id ho2.bys); (have hbt2 := below_tr hbX hb2); (have HO2 := Lib.hid ho2); (obtain ⟨y0, y1⟩ := HS.out w2 hbt2); clear ho2; (try go_simp); refine hK _ _ ?_; clear hK K) | (go_simp; go_at_call 54; refine (concat8_calls _ [bs, x] _ (rws_two _ _ _ bs x (HV.out.bys.below hbt2) HO2.out.bys 34) HT.out).mono ?_; rintro e w3 ⟨v3, rfl, ho3, hb3⟩; (try go_simp); refine hK _ _ ?_; clear hK K) | (go_simp; refine hK _ _ ?_; clear hK K)))
      | (refine wpAny_ready (rs := [3]) (by decide +kernel) (by simp) (AllReady.cons rfl (fun K hK => ?_) AllReady.nil) <;> (first | (go_simp; go_at_call 78; refine (HC.out _ (HU.out.below (by repeat (with_reducible first | exact Below.refl _ _ | apply below_dr | apply below_al | assumption)))).mono ?_; rintro e w2 ⟨hb2, v2, rfl, ho2⟩; (obtain ⟨A3, c3, rfl, _⟩ := id ho2.bys); (have hbt2 := below_tr hbX hb2); (have HO2 := Lib.hid ho2); (obtain ⟨y0, y1⟩ := HS.out w2 hbt2); clear ho2; (try go_simp); refine hK _ _ ?_; clear hK K) | (go_simp; go_at_call 54; refine (concat8_calls _ [bs, x] _ (rws_two _ _ _ bs x (HV.out.bys.below hbt2) HO2.out.bys 34) HT.out).mono ?_; rintro e w3 ⟨v3, rfl, ho3, hb3⟩; (try go_simp); refine hK _ _ ?_; clear hK K) | (go_simp; refine hK _ _ ?_; clear hK K)))
      | (refine wpAny_ready (rs := [4]) (by decide +kernel) (by simp) (AllReady.cons rfl (fun K hK => ?_) AllReady.nil) <;> (first | (go_simp; go_at_call 78; refine (HC.out _ (HU.out.below (by repeat (with_reducible first | exact Below.refl _ _ | apply below_dr | apply below_al | assumption)))).mono ?_; rintro e w2 ⟨hb2, v2, rfl, ho2⟩; (obtain ⟨A3, c3, rfl, _⟩ := id ho2.bys); (have hbt2 := below_tr hbX hb2); (have HO2 := Lib.hid ho2); (obtain ⟨y0, y1⟩ := HS.out w2 hbt2); clear ho2; (try go_simp); refine hK _ _ ?_; clear hK K) | (go_simp; go_at_call 54; refine (concat8_calls _ [bs, x] _ (rws_two _ _ _ bs x (HV.out.bys.below hbt2) HO2.out.bys 34) HT.out).mono ?_; rintro e w3 ⟨v3, rfl, ho3, hb3⟩; (try go_simp); refine hK _ _ ?_; clear hK K) | (go_simp; refine hK _ _ ?_; clear hK K)))
      | (refine wpAny_ready (rs := [5]) (by decide +kernel) (by simp) (AllReady.cons rfl (fun K hK => ?_) AllReady.nil) <;> (first | (go_simp; go_at_call 78; refine (HC.out _ (HU.out.below (by repeat (with_reducible first | exact Below.refl _ _ | apply below_dr | apply below_al | assumption)))).mono ?_; rintro e w2 ⟨hb2, v2, rfl, ho2⟩; (obtain ⟨A3, c3, rfl, _⟩ := id ho2.bys); (have hbt2 := below_tr hbX hb2); (have HO2 := Lib.hid ho2); (obtain ⟨y0, y1⟩ := HS.out w2 hbt2); clear ho2; (try go_simp); refine hK _ _ ?_; clear hK K) | (go_simp; go_at_call 54; refine (concat8_calls _ [bs, x] _ (rws_two _ _ _ bs x (HV.out.bys.below hbt2) HO2.out.bys 34) HT.out).mono ?_; rintro e w3 ⟨v3, rfl, ho3, hb3⟩; (try go_simp); refine hK _ _ ?_; clear hK K) | (go_simp; refine hK _ _ ?_; clear hK K))))))
      all_goals (refine wpAny_done (by decide +kernel) ?_ _)
      all_goals
        go_wp2
        go_ret
        refine ⟨below_tr (below_al hbt2 _) hb3, v3, rfl, ?_⟩
        rw [← HFL.out]
        exact ho3.base (by rw [World.size_alloc]; have := hbt2.size; omega)
  · have HX : Hid (appO bs rows = .error 2) := Lib.hid (by rw [appO, if_neg hw])
    have HW := Lib.hid HW
    have hd : (whyW bs == 0) = false := beq_eq_false_iff_ne.2 hw
    clear hw
    rw [HX.out]
    go_enter Try.func83, Try.ntmps83
    go_wp2_with (first
      | (go_at_call 47; refine HW.out.mono ?_; rintro e w1 ⟨rfl, hb1⟩)
      | (go_at_call 84; refine (need84_no _ _).mono ?_; rintro e w2 ⟨rfl, rfl⟩))
    exact ⟨rfl, hb1, rfl⟩
end Go.Proofs.Ytnhmhnejglpijaa
