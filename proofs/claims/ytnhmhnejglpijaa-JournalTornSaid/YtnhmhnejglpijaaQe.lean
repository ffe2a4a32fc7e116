/- octet: Put and Get: walks. -/
import Derived.Test.YtnhmhnejglpijaaQc
import Derived.Test.YtnhmhnejglpijaaNc
namespace Go.Proofs.Ytnhmhnejglpijaa
open Go.RowKit
set_option maxRecDepth 100000
set_option linter.unusedSimpArgs false
set_option linter.unusedVariables false
theorem e123 (args : Array Value) (w : World) : (callFunc 123 args).run Try.prog w = .ok (.enter 123 args) w := enters_of Try.func123 (by kernel_rfl) rfl args w
theorem e129 (args : Array Value) (w : World) : (callFunc 129 args).run Try.prog w = .ok (.enter 129 args) w := enters_of Try.func129 (by kernel_rfl) rfl args w
set_option maxHeartbeats 1000000 in
theorem put1_calls (a0 a1 a2 : Nat) (v : Value) (bs : List B8) (width N : Nat) (W : World) (c0 : W.cell? ⟨a0, 0, none⟩ = some v) (c1 : W.cell? ⟨a1, 0, none⟩ = some (.int .i64 width)) (c2 : W.cell? ⟨a2, 0, none⟩ = some (.int .u64 N))
    (hb : Bys W v bs) (h1 : 1 ≤ width) (h8 : width ≤ 8) (hN : N < 18446744073709551616) (hf : N < 2 ^ (8 * width)) (hl : bs.length ≤ 1000000000) :
    Calls Try.prog 123 #[.pointer (some ⟨a0, 0, none⟩), .pointer (some ⟨a1, 0, none⟩), .pointer (some ⟨a2, 0, none⟩)] W fun e w' => ∃ v', e = .returned v' ∧ Own8 w' W.heap.size v' (bs ++ layW width N) ∧ Below W.heap.size W w' := by
  obtain ⟨A, cap, rfl, _⟩ := id hb
  have HS : Hid (∀ X, Below W.heap.size W X → X.cell? ⟨a0, 0, none⟩ = some (.slice A bs.length cap) ∧ X.cell? ⟨a1, 0, none⟩ = some (.int .i64 width) ∧ X.cell? ⟨a2, 0, none⟩ = some (.int .u64 N)) := Lib.hid (fun X hX =>
    ⟨(hX.cell (World.block_lt_of_cell? W _ c0)).trans c0, (hX.cell (World.block_lt_of_cell? W _ c1)).trans c1, (hX.cell (World.block_lt_of_cell? W _ c2)).trans c2⟩)
  have HB := Lib.hid hb
  have HL : Hid (bs.length + (layW width N).length ≤ 1099511627776) := Lib.hid (by rw [layW_length]; omega)
  have HC := Lib.hid (laid_calls width N h1 h8 hN hf)
  clear hb hf h1 h8 hN hl
  go_enter Try.func123, Try.ntmps123
  go_wp2
  go_region_held3 (fun X => X.cell? ⟨a0, 0, none⟩ = some (.slice A bs.length cap) ∧ X.cell? ⟨a1, 0, none⟩ = some (.int .i64 width) ∧ X.cell? ⟨a2, 0, none⟩ = some (.int .u64 N))
    (exact HS.out _ (by repeat (with_reducible first | exact Below.refl _ _ | apply below_dr | apply below_al | assumption)))
    (first
      | (go_simp; go_at_call 125; (with_reducible refine (HC.out _).mono ?_); rintro e w1 ⟨rfl, hy1, hb1⟩; (have hbt1 : Below W.heap.size W w1 := below_tr (by repeat (with_reducible first | exact Below.refl _ _ | apply below_dr | apply below_al | assumption)) hb1); (have HY1 := Lib.hid hy1); (clear hy1 hb1))
      | (go_simp; go_at_call 124; (with_reducible refine (behind_calls _ _ bs (layW width N) _ ?_ ?_ HL.out).mono ?_); (exact HB.out.below (by repeat (with_reducible first | exact Below.refl _ _ | apply below_dr | apply below_al | assumption))); (exact HY1.out.below (by repeat (with_reducible first | exact Below.refl _ _ | apply below_dr | apply below_al | assumption))); rintro e w2 ⟨v2, rfl, ho2, hb2⟩; (have hbt2 : Below W.heap.size W w2 := below_tr (by repeat (with_reducible first | exact Below.refl _ _ | apply below_dr | apply below_al | assumption)) hb2); (have hbs : W.heap.size ≤ w1.heap.size := hbt1.size); (have HO2 : Hid (Own8 w2 W.heap.size v2 (bs ++ layW width N)) := Lib.hid (ho2.base (by simpa using hbs))); (clear hb2 ho2)))
  all_goals
    go_wp2
    go_ret
    exact ⟨_, rfl, HO2.out, hbt2⟩
set_option maxHeartbeats 1000000 in
theorem put_calls (v : Value) (bs : List B8) (width N : Nat) (w : World) (hb : Bys w v bs) (h1 : 1 ≤ width) (h8 : width ≤ 8) (hN : N < 18446744073709551616) (hf : N < 2 ^ (8 * width)) (hl : bs.length ≤ 1000000000) :
    Calls Try.prog 111 #[v, .int .i64 width, .int .u64 N] w fun e w' => ∃ v', e = .returned (.tuple #[v', .int .i64 0]) ∧ Own8 w' w.heap.size v' (bs ++ layW width N) ∧ Below w.heap.size w w' := by
  obtain ⟨A, cap, rfl, _⟩ := id hb
  have hmf : ∀ (fn : Fn) (first cap : Array Value) (w : World), (Instr.makeFunc fn first cap).run Try.prog w = .ok (.func fn first cap) w := fun _ _ _ _ => rfl
  have HP : Hid (∀ W, W = ((w.alloc (.cells #[.slice A bs.length cap] 34)).alloc (.cells #[.int .i64 width] 3)).alloc (.cells #[.int .u64 N] 25) → Below w.heap.size w W ∧
      Calls Try.prog 123 #[.pointer (some ⟨w.heap.size, 0, none⟩), .pointer (some ⟨w.heap.size + 1, 0, none⟩), .pointer (some ⟨w.heap.size + 1 + 1, 0, none⟩)] ((W.alloc (.cells #[.slice none 0 0] 34)).alloc (.cells #[.int .i64 0] 28)) fun e w' =>
        Below (W.heap.size + 1 + 1) ((W.alloc (.cells #[.slice none 0 0] 34)).alloc (.cells #[.int .i64 0] 28)) w' ∧ ∃ v, e = .returned v ∧ Own8 w' (W.heap.size + 1 + 1) v (bs ++ layW width N)) := Lib.hid (by
    intro W hW
    obtain ⟨g0, g1, g2⟩ := new_three w (.cells #[.slice A bs.length cap] 34) (.cells #[.int .i64 width] 3) (.cells #[.int .u64 N] 25)
    rw [← hW] at g0 g1 g2
    have hbW : Below w.heap.size w W := by rw [hW]; exact below_al (below_al (below_al (Below.refl _ _) _) _) _
    have f : ∀ {b : Nat} {o : Obj}, W.heap[b]? = some o → ((W.alloc (.cells #[.slice none 0 0] 34)).alloc (.cells #[.int .i64 0] 28)).heap[b]? = some o := fun h => new_next _ _ (new_next _ _ h)
    have hz : ((W.alloc (.cells #[.slice none 0 0] 34)).alloc (.cells #[.int .i64 0] 28)).heap.size = W.heap.size + 1 + 1 := by simp
    refine ⟨hbW, ?_⟩
    have hc := put1_calls w.heap.size (w.heap.size + 1) (w.heap.size + 1 + 1) (.slice A bs.length cap) bs width N ((W.alloc (.cells #[.slice none 0 0] 34)).alloc (.cells #[.int .i64 0] 28)) (cell_of_heap (f g0)) (cell_of_heap (f g1)) (cell_of_heap (f g2)) (hb.below (below_al (below_al hbW _) _)) h1 h8 hN hf hl
    rw [hz] at hc
    exact hc.mono fun e w' ⟨v', he, ho, hb⟩ => ⟨hb, v', he, ho⟩)
  clear hb h1 h8 hN hf hl
  go_enter Try.func111, Try.ntmps111
  go_wp2_with (go_at_call 122; refine (tries122_calls 123 _ (.ok (bs ++ layW width N)) _ e123 (HP.out _ rfl).2).mono ?_; rintro e w' ⟨hb, v', rfl, ho⟩)
  go_ret2
  exact ⟨_, rfl, ho.base (HP.out _ rfl).1.size, below_tr (HP.out _ rfl).1 hb⟩
/-- the number of the first four bytes -/
def get4 (bs : List B8) : Out Int := if bs.length < 4 then .error 110 else .ok (numB (bs.take 4))
set_option maxHeartbeats 1000000 in
theorem get1_calls (a4 a0 ab : Nat) (v : Value) (bs : List B8) (W : World) (c4 : W.cell? ⟨a4, 0, none⟩ = some (.int .i64 4)) (c0 : W.cell? ⟨a0, 0, none⟩ = some (.int .i64 0)) (cb : W.cell? ⟨ab, 0, none⟩ = some v)
    (hb : Bys W v bs) (hl : bs.length ≤ 1099511627776) :
    Calls Try.prog 129 #[.pointer (some ⟨a4, 0, none⟩), .pointer (some ⟨a0, 0, none⟩), .pointer (some ⟨ab, 0, none⟩)] W fun e w' => Below W.heap.size W w' ∧
      match get4 bs with
      | .ok x => e = .returned (.int .u64 x)
      | .error n => e = errP n := by
  obtain ⟨A, cap, rfl, hc1, hc2, _⟩ := id hb
  unfold maxLen at hc2
  have h0 : decide ((0 : Int) ≤ (bs.length : Int)) = true := decide_eq_true (by omega)
  have hw := fun W => is_width 4 (by decide) (by decide) W
  have HW : Hid (∀ w, Calls Try.prog 131 #[.int .i64 4] w fun e w' => e = .returned (.bool true) ∧ w = w') := Lib.hid hw
  clear hw
  by_cases h4 : bs.length < 4
  · have hg : get4 bs = .error 110 := by rw [get4, if_pos h4]
    have hd : decide ((bs.length : Int) ≥ 4) = false := decide_eq_false (by omega)
    rw [hg]
    clear hg hb
    go_enter Try.func129, Try.ntmps129
    go_wp2_with (first
      | (go_at_call 131; (with_reducible refine (HW.out _).mono ?_); rintro e w' ⟨rfl, rfl⟩)
      | (go_at_call 130; (with_reducible refine (need130_ok _ _).mono ?_); rintro e w' ⟨rfl, rfl⟩)
      | (go_at_call 130; (with_reducible refine (need130_no _ _).mono ?_); rintro e w' ⟨rfl, rfl⟩))
    exact ⟨rfl, Below.refl _ _, rfl⟩
  · have hg : get4 bs = .ok (numB (bs.take 4)) := by rw [get4, if_neg h4]
    have hd : decide ((bs.length : Int) ≥ 4) = true := decide_eq_true (by omega)
    have hc4 : (4 : Int) ≤ (cap : Int) := by omega
    have HT := Lib.hid (hb.take 4 (by omega))
    have HTL : Hid ((bs.take 4).length ≤ 8) := Lib.hid (by rw [List.length_take]; omega)
    rw [hg]
    clear hg hb h4
    go_enter Try.func129, Try.ntmps129
    go_wp2_with (first
      | (go_at_call 131; (with_reducible refine (HW.out _).mono ?_); rintro e w' ⟨rfl, rfl⟩)
      | (go_at_call 130; (with_reducible refine (need130_ok _ _).mono ?_); rintro e w' ⟨rfl, rfl⟩)
      | (go_at_call 132; (with_reducible refine (number_calls _ (bs.take 4) _ HT.out HTL.out).mono ?_); rintro e w' ⟨rfl, rfl⟩))
    go_ret
    exact ⟨Below.refl _ _, rfl⟩
set_option maxHeartbeats 1000000 in
theorem get_calls (v : Value) (bs : List B8) (w : World) (hb : Bys w v bs) (hl : bs.length ≤ 1099511627776) :
    Calls Try.prog 117 #[v, .int .i64 0, .int .i64 4] w fun e w' => e = .returned (.tuple #[.int .u64 ((get4 bs).get 0), .int .i64 (get4 bs).err]) ∧ Below w.heap.size w w' := by
  obtain ⟨A, cap, rfl, _⟩ := id hb
  have hmf : ∀ (fn : Fn) (first cap : Array Value) (w : World), (Instr.makeFunc fn first cap).run Try.prog w = .ok (.func fn first cap) w := fun _ _ _ _ => rfl
  have HP : Hid (∀ W, W = ((w.alloc (.cells #[.slice A bs.length cap] 34)).alloc (.cells #[.int .i64 0] 3)).alloc (.cells #[.int .i64 4] 3) → Below w.heap.size w W ∧
      Calls Try.prog 129 #[.pointer (some ⟨w.heap.size + 1 + 1, 0, none⟩), .pointer (some ⟨w.heap.size + 1, 0, none⟩), .pointer (some ⟨w.heap.size, 0, none⟩)] ((W.alloc (.cells #[.int .u64 0] 25)).alloc (.cells #[.int .i64 0] 28)) fun e w' =>
        Below (W.heap.size + 1 + 1) ((W.alloc (.cells #[.int .u64 0] 25)).alloc (.cells #[.int .i64 0] 28)) w' ∧ match get4 bs with
      | .ok x => e = .returned (.int .u64 x)
      | .error n => e = errP n) := Lib.hid (by
    intro W hW
    obtain ⟨g0, g1, g2⟩ := new_three w (.cells #[.slice A bs.length cap] 34) (.cells #[.int .i64 0] 3) (.cells #[.int .i64 4] 3)
    rw [← hW] at g0 g1 g2
    have hbW : Below w.heap.size w W := by rw [hW]; exact below_al (below_al (below_al (Below.refl _ _) _) _) _
    have f : ∀ {b : Nat} {o : Obj}, W.heap[b]? = some o → ((W.alloc (.cells #[.int .u64 0] 25)).alloc (.cells #[.int .i64 0] 28)).heap[b]? = some o := fun h => new_next _ _ (new_next _ _ h)
    have hz : ((W.alloc (.cells #[.int .u64 0] 25)).alloc (.cells #[.int .i64 0] 28)).heap.size = W.heap.size + 1 + 1 := by simp
    refine ⟨hbW, ?_⟩
    have hc := get1_calls (w.heap.size + 1 + 1) (w.heap.size + 1) w.heap.size (.slice A bs.length cap) bs ((W.alloc (.cells #[.int .u64 0] 25)).alloc (.cells #[.int .i64 0] 28)) (cell_of_heap (f g2)) (cell_of_heap (f g1)) (cell_of_heap (f g0)) (hb.below (below_al (below_al hbW _) _)) hl
    rw [hz] at hc
    exact hc)
  clear hb hl
  go_enter Try.func117, Try.ntmps117
  go_wp2_with (go_at_call 128; refine (tries128_calls 129 _ (get4 bs) _ e129 (HP.out _ rfl).2).mono ?_; rintro e w' ⟨hb, rfl⟩)
  go_ret2
  exact ⟨rfl, below_tr (HP.out _ rfl).1 hb⟩
end Go.Proofs.Ytnhmhnejglpijaa
