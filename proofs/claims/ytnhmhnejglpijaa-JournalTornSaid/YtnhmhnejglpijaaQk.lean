/- journal: First, and a scanner's next: walks. -/
import Derived.Test.YtnhmhnejglpijaaQj
import Derived.BigRegion
import Derived.Outline
namespace Go.Proofs.Ytnhmhnejglpijaa
open Go.RowKit
set_option maxRecDepth 100000
set_option linter.unusedSimpArgs false
set_option linter.unusedVariables false
theorem e91 (args : Array Value) (w : World) : (callFunc 91 args).run Try.prog w = .ok (.enter 91 args) w := enters_of Try.func91 (by kernel_rfl) rfl args w
theorem e127 (args : Array Value) (w : World) : (callFunc 127 args).run Try.prog w = .ok (.enter 127 args) w := enters_of Try.func127 (by kernel_rfl) rfl args w
set_option maxHeartbeats 1000000 in
theorem jfirst1_calls (a0 : Nat) (v : Value) (bs : List B8) (W : World) (c0 : W.cell? ⟨a0, 0, none⟩ = some v) (hb : Bys W v bs) (hl : bs.length ≤ 1099511627776) :
    Calls Try.prog 91 #[.pointer (some ⟨a0, 0, none⟩)] W (FoundE W (firstW bs)) := by
  have hA : Below W.heap.size W (W.alloc (.cells #[.slice none 0 0, .int .i64 0] 121)) := below_al (Below.refl _ _) _
  have hcall := first_calls v bs (W.alloc (.cells #[.slice none 0 0, .int .i64 0] 121)) (hb.below hA) hl
  have d0 := (hA.cell (p := ⟨a0, 0, none⟩) (World.block_lt_of_cell? W _ c0)).trans c0
  obtain ⟨A, cap, rfl, _⟩ := id hb
  have HA := Lib.hid hA
  clear hb c0 hA hl
  cases hj : firstW bs with
  | ok x =>
    rw [hj] at hcall
    clear hj
    go_enter Try.func91, Try.ntmps91
    go_wp2_with (go_at_call 92; refine hcall.mono ?_; rintro e w1 ⟨hb1, A1, c1, rfl, ho1⟩; (have hx1 := (hb1.block _ (lt_of_heap (new_here W (.cells #[.slice none 0 0, .int .i64 0] 121)))).trans (new_here W (.cells #[.slice none 0 0, .int .i64 0] 121))); (have x0 : w1.cell? ⟨W.heap.size, 0, none⟩ = some (.slice none 0 0) := cell_of_heap hx1); (have x1 : w1.cell? ⟨W.heap.size, 1, none⟩ = some (.int .i64 0) := cell_of_heap hx1); (have f0 : w1.frozen? ⟨W.heap.size, 0, none⟩ = false := free_of_heap hx1); (have f1 : w1.frozen? ⟨W.heap.size, 1, none⟩ = false := free_of_heap hx1); (have HX1 := Lib.hid hx1); (have HB1 := Lib.hid (below_tr HA.out hb1)); (have HO1 := Lib.hid ho1); (clear hx1 hb1 ho1))
    obtain ⟨k1, k2⟩ := found_end (S := .slice A1 x.length c1) (s := (x.length : Int) + 8) HX1.out
    have r0 : ((w1.setCell ⟨W.heap.size, 0, none⟩ (.slice A1 x.length c1)).setCell ⟨W.heap.size, 1, none⟩ (.int .i64 ((x.length : Int) + 8))).cell? ⟨W.heap.size, 0, none⟩ = some (.slice A1 x.length c1) := cell_of_heap k1
    have r1 : ((w1.setCell ⟨W.heap.size, 0, none⟩ (.slice A1 x.length c1)).setCell ⟨W.heap.size, 1, none⟩ (.int .i64 ((x.length : Int) + 8))).cell? ⟨W.heap.size, 1, none⟩ = some (.int .i64 ((x.length : Int) + 8)) := cell_of_heap k1
    exact bodyPost_ret (v := .agg #[.slice A1 x.length c1, .int .i64 ((x.length : Int) + 8)]) (by simp [results, Try.results91, go_sem, r0, r1]) rfl ⟨(HB1.out.setCell (p := ⟨W.heap.size, 0, none⟩) (Nat.le_refl _) _).setCell (p := ⟨W.heap.size, 1, none⟩) (Nat.le_refl _) _, A1, c1, rfl, k2 _ _ HO1.out⟩
  | error n =>
    rw [hj] at hcall
    clear hj
    go_enter Try.func91, Try.ntmps91
    go_wp2_with (go_at_call 92; refine hcall.mono ?_; rintro e w1 ⟨hb1, rfl⟩)
    exact ⟨rfl, below_tr HA.out hb1, rfl⟩
set_option maxHeartbeats 1000000 in
theorem next1_calls (a0 sB : Nat) (v : Value) (bs : List B8) (W : World) (c0 : W.cell? ⟨a0, 0, none⟩ = some (.pointer (some ⟨sB, 0, none⟩))) (cs : W.cell? ⟨sB, 0, none⟩ = some v) (hb : Bys W v bs) (hl : bs.length ≤ 1099511627776) :
    Calls Try.prog 127 #[.pointer (some ⟨a0, 0, none⟩)] W (FoundE W (firstW bs)) := by
  have hA : Below W.heap.size W (W.alloc (.cells #[.slice none 0 0, .int .i64 0] 121)) := below_al (Below.refl _ _) _
  have hcall := first_calls v bs (W.alloc (.cells #[.slice none 0 0, .int .i64 0] 121)) (hb.below hA) hl
  have d0 := (hA.cell (p := ⟨a0, 0, none⟩) (World.block_lt_of_cell? W _ c0)).trans c0
  have d1 := (hA.cell (p := ⟨sB, 0, none⟩) (World.block_lt_of_cell? W _ cs)).trans cs
  obtain ⟨A, cap, rfl, _⟩ := id hb
  have HA := Lib.hid hA
  clear hb c0 cs hA hl
  cases hj : firstW bs with
  | ok x =>
    rw [hj] at hcall
    clear hj
    go_enter Try.func127, Try.ntmps127
    go_wp2_with (go_at_call 92; refine hcall.mono ?_; rintro e w1 ⟨hb1, A1, c1, rfl, ho1⟩; (have hx1 := (hb1.block _ (lt_of_heap (new_here W (.cells #[.slice none 0 0, .int .i64 0] 121)))).trans (new_here W (.cells #[.slice none 0 0, .int .i64 0] 121))); (have x0 : w1.cell? ⟨W.heap.size, 0, none⟩ = some (.slice none 0 0) := cell_of_heap hx1); (have x1 : w1.cell? ⟨W.heap.size, 1, none⟩ = some (.int .i64 0) := cell_of_heap hx1); (have f0 : w1.frozen? ⟨W.heap.size, 0, none⟩ = false := free_of_heap hx1); (have f1 : w1.frozen? ⟨W.heap.size, 1, none⟩ = false := free_of_heap hx1); (have HX1 := Lib.hid hx1); (have HB1 := Lib.hid (below_tr HA.out hb1)); (have HO1 := Lib.hid ho1); (clear hx1 hb1 ho1))
    obtain ⟨k1, k2⟩ := found_end (S := .slice A1 x.length c1) (s := (x.length : Int) + 8) HX1.out
    have r0 : ((w1.setCell ⟨W.heap.size, 0, none⟩ (.slice A1 x.length c1)).setCell ⟨W.heap.size, 1, none⟩ (.int .i64 ((x.length : Int) + 8))).cell? ⟨W.heap.size, 0, none⟩ = some (.slice A1 x.length c1) := cell_of_heap k1
    have r1 : ((w1.setCell ⟨W.heap.size, 0, none⟩ (.slice A1 x.length c1)).setCell ⟨W.heap.size, 1, none⟩ (.int .i64 ((x.length : Int) + 8))).cell? ⟨W.heap.size, 1, none⟩ = some (.int .i64 ((x.length : Int) + 8)) := cell_of_heap k1
    exact bodyPost_ret (v := .agg #[.slice A1 x.length c1, .int .i64 ((x.length : Int) + 8)]) (by simp [results, Try.results127, go_sem, r0, r1]) rfl ⟨(HB1.out.setCell (p := ⟨W.heap.size, 0, none⟩) (Nat.le_refl _) _).setCell (p := ⟨W.heap.size, 1, none⟩) (Nat.le_refl _) _, A1, c1, rfl, k2 _ _ HO1.out⟩
  | error n =>
    rw [hj] at hcall
    clear hj
    go_enter Try.func127, Try.ntmps127
    go_wp2_with (go_at_call 92; refine hcall.mono ?_; rintro e w1 ⟨hb1, rfl⟩)
    exact ⟨rfl, below_tr HA.out hb1, rfl⟩
theorem firstW_len {bs h : List B8} (hf : firstW bs = .ok h) : h.length + 8 ≤ bs.length := by
  unfold firstW at hf
  by_cases h4 : bs.length < 4
  · rw [if_pos h4] at hf; cases hf
  · rw [if_neg h4] at hf
    by_cases hn : 65536 < numB (bs.take 4)
    · rw [if_pos hn] at hf; cases hf
    · rw [if_neg hn] at hf
      by_cases hs : bs.length < numB (bs.take 4) + 8
      · rw [if_pos hs] at hf; cases hf
      · rw [if_neg hs] at hf
        cases ho : openedW (bs.take (numB (bs.take 4) + 8)) with
        | none => rw [ho] at hf; cases hf
        | some l =>
          rw [ho] at hf
          cases hf
          obtain ⟨hle, hl4⟩ := opened_len ho
          rw [hle, List.length_drop, List.length_take, List.length_take]
          omega
set_option maxHeartbeats 2000000 in
theorem jfirst_calls (v : Value) (bs : List B8) (w : World) (hb : Bys w v bs) (hl : bs.length ≤ 1099511627776) :
    Calls Try.prog 52 #[v] w fun e w' => ∃ v', e = .returned (.tuple #[v', .int .i64 (sizeO (firstW bs)), .int .i64 (firstW bs).err]) ∧ Own8 w' w.heap.size v' ((firstW bs).get []) ∧ Below w.heap.size w w' := by
  obtain ⟨A, cap, rfl, _⟩ := id hb
  have hmf : ∀ (fn : Fn) (first cap : Array Value) (w : World), (Instr.makeFunc fn first cap).run Try.prog w = .ok (.func fn first cap) w := fun _ _ _ _ => rfl
  have HB := Lib.hid (below_al (Below.refl _ w) (.cells #[.slice A bs.length cap] 34))
  have HP : Hid (∀ X, X = ((w.alloc (.cells #[.slice A bs.length cap] 34)).alloc (.cells #[.slice none 0 0, .int .i64 0] 121)).alloc (.cells #[.int .i64 0] 28) → Calls Try.prog 91 #[.pointer (some ⟨w.heap.size, 0, none⟩)] X (FoundE X (firstW bs))) := Lib.hid (by
    rintro X rfl
    exact jfirst1_calls _ _ bs _ (cell_of_heap (new_next _ _ (new_next _ _ (new_here w _)))) (hb.below (below_al (below_al HB.out _) _)) hl)
  have hgl : ((firstW bs).get []).length ≤ 140737488355328 := by
    cases hf : firstW bs with
    | ok h => have := firstW_len hf; show h.length ≤ _; omega
    | error n => simp [Out.get]
  clear hb hl
  generalize firstW bs = r at *
  have HGL := Lib.hid hgl
  clear hgl
  obtain ⟨x, hx⟩ : ∃ x, r.get [] = x := ⟨_, rfl⟩
  obtain ⟨sz, hsz⟩ : ∃ sz, sizeO r = sz := ⟨_, rfl⟩
  obtain ⟨en, hen⟩ : ∃ en, r.err = en := ⟨_, rfl⟩
  have HT : Hid (∀ w', TriedE w' r = fun e W => Below w'.heap.size w' W ∧ ∃ A c, e = .returned (.tuple #[.agg #[.slice A x.length c, .int .i64 sz], .int .i64 en]) ∧ Bt W (.slice A x.length c) x) := Lib.hid (fun w' => by rw [← hx, ← hsz, ← hen]; rfl)
  rw [hx] at HGL ⊢
  rw [hsz, hen]
  clear hx hsz hen
  go_enter Try.func52, Try.ntmps52
  go_wp2_with (go_at_call 90; refine (tries90_calls 91 _ r _ e91 HP.out).mono ?_; rw [HT.out]; rintro e w1 ⟨hb1, A1, c1, rfl, ho1⟩; (have HB1 := Lib.hid (below_tr HB.out hb1)); (have HO1 := Lib.hid ho1); (clear hb1 ho1))
  obtain ⟨W2, hW2⟩ : ∃ W2, w1.alloc (.cells #[.slice A1 x.length c1, .int .i64 sz] 121) = W2 := ⟨_, rfl⟩
  have hx2 : W2.heap[w1.heap.size]? = some (.cells #[.slice A1 x.length c1, .int .i64 sz] 121 (0, 0)) := by rw [← hW2]; exact new_here w1 _
  have hb2 : Below w1.heap.size w1 W2 := by rw [← hW2]; exact below_al (Below.refl _ _) _
  have HS : Hid (∀ X, Below W2.heap.size W2 X → X.cell? ⟨w1.heap.size, 0, none⟩ = some (.slice A1 x.length c1) ∧ X.cell? ⟨w1.heap.size, 1, none⟩ = some (.int .i64 sz)) := Lib.hid (fun X hX => by
    have h := (hX.block _ (lt_of_heap hx2)).trans hx2
    exact ⟨cell_of_heap h, cell_of_heap h⟩)
  have HB2 := Lib.hid (below_tr HB1.out hb2)
  have HO2 := Lib.hid (HO1.out.below hb2)
  have HW2 := Lib.hid hW2
  clear hW2 hx2 hb2
  rw [HW2.out]
  go_region_held3 (fun X => X.cell? ⟨w1.heap.size, 0, none⟩ = some (.slice A1 x.length c1) ∧ X.cell? ⟨w1.heap.size, 1, none⟩ = some (.int .i64 sz))
    (exact HS.out _ (by repeat (with_reducible first | exact Below.refl _ _ | apply below_dr | apply below_al | assumption)))
    (first | (go_simp; go_at_call 37; (with_reducible refine (clone_calls _ x _ ?_ HGL.out).mono ?_); (exact HO2.out.1.below (by repeat (with_reducible first | exact Below.refl _ _ | apply below_dr | apply below_al | assumption))); rintro e w3 ⟨v3, rfl, ho3, hb3⟩; (have hbt3 : Below W2.heap.size W2 w3 := below_tr (by repeat (with_reducible first | exact Below.refl _ _ | apply below_dr | apply below_al | assumption)) hb3); (have hs2 : w.heap.size ≤ W2.heap.size := HB2.out.size); (have HO3 : Hid (Own8 w3 w.heap.size v3 x) := Lib.hid (ho3.base (by simpa using hs2))); (clear hb3 ho3)))
  all_goals
    go_wp2
    go_ret3
    exact ⟨_, rfl, HO3.out, below_tr HB2.out hbt3⟩
end Go.Proofs.Ytnhmhnejglpijaa
