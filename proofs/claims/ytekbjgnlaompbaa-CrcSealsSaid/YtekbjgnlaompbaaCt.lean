/- The layer does something: the walk. -/
import Derived.Test.YtekbjgnlaompbaaCs
namespace Go.Proofs.Ytekbjgnlaompbaa
open Go.RowKit
set_option linter.unusedSimpArgs false
/-- A row's mark behind its last cell. -/
def mkObj : Obj → Obj
  | .cells c elem (lo, hi) => .cells c elem (if lo == hi then (c.size, c.size + 1) else (min lo c.size, max hi (c.size + 1)))
  | o => o
/-- The world with that mark. -/
def marked (w : World) (a : Addr) : World := match w.shape? a.block with | some (_, n) => w.freeze ⟨a.block, n, none⟩ 1 | none => w
theorem cv29 (a : Addr) (n c : Nat) (w : World) : (convert 29 29 (.slice (some a) n c)).run Try.prog w = .ok (.slice (some a) n c) (marked w a) := by
  simp [convert, run_underlying Try.underlying29, run_underlying Try.underlying5, markStringish]
  unfold marked
  cases hs : w.shape? a.block with
  | none => simp
  | some q =>
    obtain ⟨t, m⟩ := q
    simp
theorem heap_marked (w : World) (a : Addr) (i : Nat) : (marked w a).heap[i]? = if i = a.block then (w.heap[i]?).map mkObj else w.heap[i]? := by
  unfold marked
  by_cases h : i = a.block
  · subst h
    rw [if_pos rfl]
    unfold World.shape?
    cases hk : w.heap[a.block]? with
    | none => simp [hk]
    | some o =>
      cases o with
      | cells c t fr =>
        obtain ⟨lo, hi⟩ := fr
        simp [World.freeze, Array.getElem?_modify, hk, mkObj]
      | _ => simp [hk, mkObj]
  · rw [if_neg h]
    split
    · simp only [World.freeze, Nat.one_ne_zero, if_false, Array.getElem?_modify, Ne.symm h]
    · rfl
@[simp] theorem size_marked (w : World) (a : Addr) : (marked w a).heap.size = w.heap.size := by
  unfold marked
  split
  · simp [World.freeze]
  · rfl
theorem below_marked {w W : World} (h : Below w.heap.size w W) (m k : Nat) (hm : w.heap.size ≤ m) : Below w.heap.size w (marked W ⟨m, k, none⟩) := by
  refine h.trans ?_
  unfold marked
  split
  · unfold World.freeze
    rw [if_neg (by decide)]
    exact ⟨rfl, rfl, rfl, by simp, fun k hk => by
      simp only [Array.getElem?_modify]
      rw [if_neg (by omega)]⟩
  · exact Below.refl _ _
theorem eq26 (w : World) : (binOp .eql 26 (.agg #[.int .u8 1, .int .u8 2, .int .u8 3, .int .u8 4]) (.agg #[.int .u8 1, .int .u8 2, .int .u8 3, .int .u8 4])).run Try.prog w = .ok (.bool true) w := by
  kernel_rfl
/-- A conversion of bytes to bytes. -/
def cvo (k : Nat) : Op := .convert 29 29 (.tmp k)
theorem cvo_eq (k : Nat) : cvo k = .convert 29 29 (.tmp k) := rfl
theorem rep56 : Array.replicate 56 false = #[false, false, false, false, false, false, false, false, false, false, false, false, false, false, false, false, false, false, false, false, false, false, false, false, false, false, false, false, false, false, false, false, false, false, false, false, false, false, false, false, false, false, false, false, false, false, false, false, false, false, false, false, false, false, false, false] := rfl
set_option maxRecDepth 100000 in
set_option maxHeartbeats 16000000 in
theorem wakes_calls (w : World) : Calls Try.prog 9 #[] w fun e w' => e = .returned (.bool true) ∧ Below w.heap.size w w' := by
  have hm4 : ∀ w, (Instr.makeSlice 29 (.int .i64 4) (.int .i64 4)).run Try.prog w = .ok (.slice (some ⟨w.heap.size, 0, none⟩) 4 4) (w.alloc (.cells (zb 4) 5)) := fun w => run_make8 w 4 4 (Nat.le_refl _) (by omega)
  have hm3 : ∀ w, (Instr.makeSlice 29 (.int .i64 3) (.int .i64 3)).run Try.prog w = .ok (.slice (some ⟨w.heap.size, 0, none⟩) 3 3) (w.alloc (.cells (zb 3) 5)) := fun w => run_make8 w 3 3 (Nat.le_refl _) (by omega)
  go_enter Try.func9, Try.ntmps9
  go_upto_region 6 with (first
    | (go_at_call 16; (with_reducible refine (open_four0 _).mono ?_); rintro e w1 ⟨v1, rfl, hv1, hb1⟩)
    | (go_at_call 16; (with_reducible refine (open_three0 _).mono ?_); rintro e w2 ⟨rfl, hb2⟩)
    | (go_at_call 18; (with_reducible refine (spoil_nine _ _ rfl).mono ?_); rintro e w3 ⟨v3, rfl, hv3, hb3⟩)
    | (go_at_call 18; (with_reducible refine (spoil_fifteen _ _ rfl).mono ?_); rintro e w4 ⟨rfl, hb4⟩)
    | (go_at_call 24; refine (table_calls _).mono ?_; rintro e w5 ⟨rfl, hb5⟩)
    | (refine wpList_store_row rfl 48 (.tmp 9) (.tmp 30) rfl w5.heap.size (tabB 256) rfl rfl 48 Try.zeroCells48 (new_here w5 _) (by rw [tabB_size]; kernel_rfl) (by rw [tabB_zero, tabB_size, tabB_size]) (tabB_one 256) ?_))
  simp only [Act.put]
  obtain ⟨W0, hW0⟩ : ∃ W0, (w5.alloc (Obj.cells Try.zeroCells48 48)).setRow w5.heap.size (tabB 256) = W0 := ⟨_, rfl⟩
  rw [hW0]
  have hb51 : Below w1.heap.size w1 w5 := below_tr (below_tr (below_tr (below_al (Below.refl _ _) _) hb2) (below_tr (below_al (Below.refl _ _) _) hb3)) (below_tr (below_tr (below_al (Below.refl _ _) _) hb4) hb5)
  have hb53 : Below w3.heap.size w3 w5 := below_tr (below_tr (below_al (Below.refl _ _) _) hb4) hb5
  have hbW : Below w5.heap.size w5 W0 := by rw [← hW0]; exact below_setRow (below_al (Below.refl _ _) _) (Nat.le_refl _) _
  have hw0 : Below w.heap.size w W0 := below_tr (below_tr (below_tr (below_al (Below.refl _ _) _) hb1) hb51) hbW
  have hv3' : Bys W0 v3 [1#8, 7#8] := (hv3.below hb53).below hbW
  have ht : W0.heap[w5.heap.size]? = some (.cells (tabB 256) 48 (0, 0)) := by rw [← hW0]; exact setRow_heap _ _ _ _ _ _ (new_here w5 _)
  have c128 : W0.cell? ⟨w5.heap.size, 128, none⟩ = some (.int .u32 3988292384) := by
    rw [cell_of_heap ht, tabB_at 256 128 (by omega), if_pos (by omega), tab128]
    rfl
  clear hW0 ht
  have HV3 := Lib.hid hv3'
  have HW := Lib.hid hw0
  obtain ⟨A1, c1, rfl, _⟩ := hv1
  simp only [List.length_nil]
  clear hv3 hv3' hw0 hbW hb51 hb53 hb1 hb2 hb3 hb4 hb5
  have hcv := cv29
  have heq := eq26
  have hk : ∀ W, Below W0.heap.size W0 W → W.cell? ⟨w5.heap.size, 128, none⟩ = some (.int .u32 3988292384) := fun W h => (h.cell (p := ⟨w5.heap.size, 128, none⟩) (World.block_lt_of_cell? W0 _ c128)).trans c128
  have HK := Lib.hid hk
  clear hk
  have hcvo := cvo_eq
  simp only [← cvo_eq 51, ← cvo_eq 53]
  go_region_held3 (fun W => W.cell? ⟨w5.heap.size, 128, none⟩ = some (.int .u32 3988292384)) ((refine HK.out _ ?_; (repeat (first | (with_reducible first | exact Below.refl _ _ | apply below_dr | apply below_dn | apply below_al | apply below_marked | assumption) | omega | (simp only [World.size_alloc, World.heap_drewN, heap_drew', size_marked] <;> omega))))) (first
    | (go_at_call 20; (with_reducible refine (sum_threeE W0 _ _ ?_ ?_).mono ?_); (repeat (first | (with_reducible first | exact Below.refl _ _ | apply below_dr | apply below_dn | apply below_al | apply below_marked | assumption) | omega | (simp only [World.size_alloc, World.heap_drewN, heap_drew', size_marked] <;> omega))); (apply Exists.intro; apply Exists.intro; apply Exists.intro; apply Exists.intro; (refine ⟨?_, ?_, ?_⟩); (focus ((simp only [heap_alloc_if, heap_marked, size_marked, Option.map_some, heap_drew', World.heap_drewN, World.size_alloc, reduceIte, sz01, sz02, sz03, sz04, sz10, sz12, sz13, sz14, sz20, sz21, sz23, sz24, sz30, sz31, sz32, sz34, sz40, sz41, sz42, sz43]); try rfl)); (focus ((simp only [heap_alloc_if, heap_marked, size_marked, Option.map_some, heap_drew', World.heap_drewN, World.size_alloc, reduceIte, sz01, sz02, sz03, sz04, sz10, sz12, sz13, sz14, sz20, sz21, sz23, sz24, sz30, sz31, sz32, sz34, sz40, sz41, sz42, sz43]); try rfl)); (focus ((simp only [heap_alloc_if, heap_marked, size_marked, Option.map_some, heap_drew', World.heap_drewN, World.size_alloc, reduceIte, sz01, sz02, sz03, sz04, sz10, sz12, sz13, sz14, sz20, sz21, sz23, sz24, sz30, sz31, sz32, sz34, sz40, sz41, sz42, sz43]); try rfl))); rintro e w6 ⟨rfl, hB6⟩; (try (simp only [List.size_toArray, List.length_cons, List.length_nil, Nat.reduceAdd, Nat.zero_add, rep56, List.setIfInBounds_toArray, List.set_cons_zero, List.set_cons_succ] at *)))
    | (go_at_call 20; (with_reducible refine (sum_none W0 _ ?_).mono ?_); (repeat (first | (with_reducible first | exact Below.refl _ _ | apply below_dr | apply below_dn | apply below_al | apply below_marked | assumption) | omega | (simp only [World.size_alloc, World.heap_drewN, heap_drew', size_marked] <;> omega))); rintro e w7 ⟨rfl, hB7⟩; (try (simp only [List.size_toArray, List.length_cons, List.length_nil, Nat.reduceAdd, Nat.zero_add, rep56, List.setIfInBounds_toArray, List.set_cons_zero, List.set_cons_succ] at *)))
    | (go_at_call 20; (with_reducible refine (sum_1234E W0 _ _ ?_ ?_).mono ?_); (repeat (first | (with_reducible first | exact Below.refl _ _ | apply below_dr | apply below_dn | apply below_al | apply below_marked | assumption) | omega | (simp only [World.size_alloc, World.heap_drewN, heap_drew', size_marked] <;> omega))); (apply Exists.intro; (refine ⟨?_, ?_⟩); (focus ((simp only [heap_alloc_if, heap_marked, size_marked, Option.map_some, heap_drew', World.heap_drewN, World.size_alloc, reduceIte, sz01, sz02, sz03, sz04, sz10, sz12, sz13, sz14, sz20, sz21, sz23, sz24, sz30, sz31, sz32, sz34, sz40, sz41, sz42, sz43]); try rfl)); (focus ((simp only [heap_alloc_if, heap_marked, size_marked, Option.map_some, heap_drew', World.heap_drewN, World.size_alloc, reduceIte, sz01, sz02, sz03, sz04, sz10, sz12, sz13, sz14, sz20, sz21, sz23, sz24, sz30, sz31, sz32, sz34, sz40, sz41, sz42, sz43]); try rfl))); rintro e w10 ⟨rfl, hB10⟩; (try (simp only [List.size_toArray, List.length_cons, List.length_nil, Nat.reduceAdd, Nat.zero_add, rep56, List.setIfInBounds_toArray, List.set_cons_zero, List.set_cons_succ] at *)))
    | (go_at_call 11; (with_reducible refine (equal_same _ _ [1#8, 7#8] _ ?_ ?_).mono ?_); (refine HV3.out.below ?_; (repeat (first | (with_reducible first | exact Below.refl _ _ | apply below_dr | apply below_dn | apply below_al | apply below_marked | assumption) | omega | (simp only [World.size_alloc, World.heap_drewN, heap_drew', size_marked] <;> omega)))); (exact bys_lit2 _ 1#8 7#8); rintro e w8 ⟨rfl, n8, rfl⟩; (try (simp only [List.size_toArray, List.length_cons, List.length_nil, Nat.reduceAdd, Nat.zero_add, rep56, List.setIfInBounds_toArray, List.set_cons_zero, List.set_cons_succ] at *)))
    | (go_at_call 14; (with_reducible refine (seal_nil W0 _ ?_).mono ?_); (repeat (first | (with_reducible first | exact Below.refl _ _ | apply below_dr | apply below_dn | apply below_al | apply below_marked | assumption) | omega | (simp only [World.size_alloc, World.heap_drewN, heap_drew', size_marked] <;> omega))); rintro e w9 ⟨v9, rfl, hv9, hb9, hB9⟩; (try (simp only [List.size_toArray, List.length_cons, List.length_nil, Nat.reduceAdd, Nat.zero_add, rep56, List.setIfInBounds_toArray, List.set_cons_zero, List.set_cons_succ] at *)))
    | (go_at_call 11; (with_reducible refine (equal_same _ _ [0#8, 0#8, 0#8, 0#8] _ ?_ ?_).mono ?_); (refine hv9.below ?_; (repeat (first | (with_reducible first | exact Below.refl _ _ | apply below_dr | apply below_dn | apply below_al | apply below_marked | assumption) | omega | (simp only [World.size_alloc, World.heap_drewN, heap_drew', size_marked] <;> omega)))); (refine bys_zero _ _ ?_); (first | (focus ((simp only [heap_alloc_if, heap_marked, size_marked, Option.map_some, heap_drew', World.heap_drewN, World.size_alloc, reduceIte, sz01, sz02, sz03, sz04, sz10, sz12, sz13, sz14, sz20, sz21, sz23, sz24, sz30, sz31, sz32, sz34, sz40, sz41, sz42, sz43]); done)) | (refine (hb9.block _ ?_).trans ?_; (focus (simp only [World.size_alloc, World.heap_drewN, heap_drew', size_marked]; omega)); (simp only [heap_alloc_if, heap_marked, size_marked, Option.map_some, heap_drew', World.heap_drewN, World.size_alloc, reduceIte, sz01, sz02, sz03, sz04, sz10, sz12, sz13, sz14, sz20, sz21, sz23, sz24, sz30, sz31, sz32, sz34, sz40, sz41, sz42, sz43]))); rintro e w11 ⟨rfl, n11, rfl⟩; (try (simp only [List.size_toArray, List.length_cons, List.length_nil, Nat.reduceAdd, Nat.zero_add, rep56, List.setIfInBounds_toArray, List.set_cons_zero, List.set_cons_succ] at *)))
    | (go_at_call 10; (with_reducible refine (tail_1234 W0 _ ?_).mono ?_); (repeat (first | (with_reducible first | exact Below.refl _ _ | apply below_dr | apply below_dn | apply below_al | apply below_marked | assumption) | omega | (simp only [World.size_alloc, World.heap_drewN, heap_drew', size_marked] <;> omega))); rintro e w12 ⟨rfl, hB12⟩; (try (simp only [List.size_toArray, List.length_cons, List.length_nil, Nat.reduceAdd, Nat.zero_add, rep56, List.setIfInBounds_toArray, List.set_cons_zero, List.set_cons_succ] at *)))
    | (go_simp; (simp only [List.size_toArray, List.length_cons, List.length_nil, Nat.reduceAdd, Nat.zero_add, rep56, List.setIfInBounds_toArray, List.set_cons_zero, List.set_cons_succ] at *)))
  all_goals go_wp2
  all_goals go_ret
  all_goals exact ⟨rfl, below_tr HW.out hB12⟩
end Go.Proofs.Ytekbjgnlaompbaa
