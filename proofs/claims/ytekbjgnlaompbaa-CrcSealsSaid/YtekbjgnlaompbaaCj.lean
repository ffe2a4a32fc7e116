/- The table of bytes. -/
import Derived.Test.YtekbjgnlaompbaaCi
import Derived.Laws.Tables
namespace Go.Proofs.Ytekbjgnlaompbaa
open Go.RowKit
def tabByte (j : Nat) : W32 := feedByte 0#32 (BitVec.ofNat 8 j)
def tabB (k : Nat) : Array Value := ((List.range 256).map fun j => Value.int .u32 (if j < k then nb (tabByte j) else 0)).toArray
theorem tabB_size (k : Nat) : (tabB k).size = 256 := by simp [tabB]
theorem tabB_at (k j : Nat) (hj : j < 256) : (tabB k)[j]? = some (.int .u32 (if j < k then nb (tabByte j) else 0)) := by
  simp [tabB, hj]
theorem tabB_set (k : Nat) (hk : k < 256) : (tabB k).setIfInBounds k (.int .u32 (nb (tabByte k))) = tabB (k + 1) := by
  simp only [tabB, List.setIfInBounds_toArray]
  congr 1
  apply List.ext_getElem?
  intro i
  rw [List.getElem?_set]
  by_cases h : k = i
  · subst h
    simp [hk]
  · rw [if_neg h]
    simp only [List.getElem?_map]
    by_cases h16 : i < 256
    · rw [List.getElem?_range h16]
      simp only [Option.map_some]
      by_cases hik : i < k
      · rw [if_pos hik, if_pos (by omega)]
      · rw [if_neg hik, if_neg (by omega)]
    · rw [List.getElem?_eq_none (by simp; omega)]
      rfl
theorem tabB_one (k : Nat) : (tabB k).all (·.oneCell') = true := by
  rw [Array.all_eq_true']
  intro x hx
  simp only [tabB, List.mem_toArray, List.mem_map] at hx
  obtain ⟨j, _, rfl⟩ := hx
  rfl
theorem bn_ofNat {n : Nat} (h : n < 256) : bn (BitVec.ofNat 8 n) = n := by unfold bn; rw [BitVec.toNat_ofNat]; omega
/-- What holds at the head of a round. -/
structure TabR (w : World) (k : Nat) (wr : World) : Prop where
  below : Below w.heap.size w wr
  size : w.heap.size + 3 ≤ wr.heap.size
  out : wr.heap[w.heap.size]? = some (.cells (tabB 0) 48 (0, 0))
  tab : wr.heap[w.heap.size + 1]? = some (.cells (tabB k) 48 (0, 0))
  at_ : TabAt wr (w.heap.size + 2)
theorem tabB_zero : Try.zeroCells48 = tabB 0 := by kernel_rfl
theorem new_three (w : World) (o0 o1 o2 : Obj) : (((w.alloc o0).alloc o1).alloc o2).heap[w.heap.size]? = some o0 ∧ (((w.alloc o0).alloc o1).alloc o2).heap[w.heap.size + 1]? = some o1 ∧ (((w.alloc o0).alloc o1).alloc o2).heap[w.heap.size + 2]? = some o2 := by
  have h0 := new_here w o0
  have h1 : ((w.alloc o0).alloc o1).heap[w.heap.size + 1]? = some o1 := by have := new_here (w.alloc o0) o1; rwa [World.size_alloc] at this
  have h2 : (((w.alloc o0).alloc o1).alloc o2).heap[w.heap.size + 2]? = some o2 := by have := new_here ((w.alloc o0).alloc o1) o2; rwa [World.size_alloc, World.size_alloc] at this
  exact ⟨new_next _ _ (new_next _ _ h0), new_next _ _ h1, h2⟩
theorem feed_nat (br bt : Nat) (hne : br ≠ bt) (k : Nat) (hk : k < 256) (w : World) (hr : RegAt w br bt 0#32) (ht : TabAt w bt) :
    Calls Try.prog 35 #[.pointer (some ⟨br, 0, none⟩), .int .u8 k] w fun e w' =>
      e = .returned (.tuple #[]) ∧ Mod [br, bt] w w' ∧ RegAt w' br bt (tabByte k) ∧ TabAt w' bt := by
  have := feed_calls br bt hne 0#32 (BitVec.ofNat 8 k) w hr ht
  rwa [bn_ofNat hk] at this
set_option maxRecDepth 100000 in
theorem table_calls (w : World) : Calls Try.prog 24 #[] w fun e w' => e = .returned (.agg (tabB 256)) ∧ Below w.heap.size w w' := by
  go_enter Try.func24, Try.ntmps24
  go_wp2_with fail
  go_loopw [7, 3, 4] (fun i _ _ wr => ∃ k : Nat, k ≤ 256 ∧ i = .int .i64 k ∧ TabR w k wr) (fun i _ _ _ => 256 - (intOf i).toNat)
  case atStart =>
    refine ⟨0, by omega, rfl, ?_⟩
    rw [tabB_zero]
    obtain ⟨g0, g1, g2⟩ := new_three w (.cells (tabB 0) 48) (.cells (tabB 0) 48) (.cells (tabCells 0 0 0) 74)
    exact ⟨(((Below.refl _ w).alloc (Nat.le_refl _) _).alloc (by simp) _).alloc (by simp; omega) _, by simp, g0, g1, .inl g2⟩
  case round =>
    obtain ⟨k, hk, rfl, hR⟩ := hrel
    have HR := Lib.hid hR
    clear hR
    by_cases hlt : k < 256
    · have hd : decide ((k : Int) < 256) = true := by simp; omega
      have ht := HR.out.at_.lt
      have hr1 : RegAt (wr.alloc (.cells #[.pointer (some ⟨w.heap.size + 2, 0, none⟩), .int .u32 0] 77)) wr.heap.size (w.heap.size + 2) 0#32 := new_here wr _
      have ht1 := HR.out.at_.mod ((Mod.refl [] wr).alloc (.cells #[.pointer (some ⟨w.heap.size + 2, 0, none⟩), .int .u32 0] 77)) (by simp)
      have HR1 := Lib.hid hr1
      have HT1 := Lib.hid ht1
      have e0 : w.heap.size + 1 + 1 = w.heap.size + 2 := rfl
      clear hr1 ht1
      go_wp2_with (go_at_call 35; refine (feed_nat wr.heap.size (w.heap.size + 2) (by omega) k hlt _ HR1.out HT1.out).mono ?_; rintro e w2 ⟨rfl, hm2, hr2, ht2⟩; have c1 := hr2.c1; have g1 := (hm2.block (w.heap.size + 1) (by simp; omega) (by simp; omega)).trans ((Below.heap_alloc _ _ _ (by omega)).trans HR.out.tab); have q1 := (cell_of_heap (k := k) g1).trans (tabB_at k k hlt); have f1 := free_of_heap (k := k) g1; have G1 := Lib.hid g1; have HR2 := Lib.hid hr2; have HT2 := Lib.hid ht2; clear hr2 ht2 g1)
      have hs2 := hm2.size
      have hsz := HR.out.size
      have hrs : TabR w (k + 1) (w2.setCell ⟨w.heap.size + 1, k, none⟩ (.int .u32 (nb (tabByte k)))) := by
        have hba : Below w.heap.size w (wr.alloc (.cells #[.pointer (some ⟨w.heap.size + 2, 0, none⟩), .int .u32 0] 77)) := HR.out.below.alloc (by omega) _
        have hb2 : Below w.heap.size w w2 := hba.trans (hm2.below (by intro i hi; simp at hi; omega) (by simp; omega))
        refine ⟨hb2.setCell (p := ⟨w.heap.size + 1, k, none⟩) (by simp) _, ?_, ?_, ?_, ?_⟩
        · simp only [World.setCell, Array.size_modify]; simp at hs2; omega
        · rw [Below.heap_setCell _ _ _ _ (by simp)]
          exact (hm2.block w.heap.size (by simp; omega) (by simp; omega)).trans ((Below.heap_alloc _ _ _ (by omega)).trans HR.out.out)
        · rw [heap_setCell_same _ _ _ _ _ _ _ G1.out, tabB_set k hlt]
        · exact HT2.out.mod ((Mod.refl [w.heap.size + 1] w2).setCell (p := ⟨w.heap.size + 1, k, none⟩) (by simp) _) (by simp)
      go_roundw
      case rel => exact ⟨k + 1, by omega, by go_num, hrs⟩
      case measure => simp [intOf]; omega
    · have hd : decide ((k : Int) < 256) = false := by simp; omega
      have hk2 : k = 256 := by omega
      have hsz := HR.out.size
      have g0 := Lib.hid HR.out.out
      have g1 : Hid (wr.heap[w.heap.size + 1]? = some (.cells (tabB 256) 48 (0, 0))) := by rw [Hid, ← hk2]; exact HR.out.tab
      clear hk2
      go_wp2_with (first | (refine wpList_load_row rfl 48 (.tmp 1) rfl (w.heap.size + 1) rfl 48 (tabB 256) (0, 0) _ g1.out Try.underlying48 rfl (by rw [tabB_size]; kernel_rfl) ?_) | (refine wpList_store_row rfl 48 (.tmp 0) (.tmp 24) rfl w.heap.size (tabB 256) rfl rfl 48 (tabB 0) g0.out (by rw [tabB_size]; kernel_rfl) (by rw [tabB_size, tabB_size]) (tabB_one 256) ?_))
      refine bodyPost_ret (v := .agg (tabB 256)) (results_cell_row (p := 0) (ty := 48) rfl _ _ w.heap.size 48 (tabB 256) (0, 0) _ rfl (setRow_heap wr _ _ _ 48 (0, 0) g0.out) Try.underlying48 rfl (by rw [tabB_size]; kernel_rfl)) rfl ⟨rfl, below_setRow HR.out.below (Nat.le_refl _) _⟩
end Go.Proofs.Ytekbjgnlaompbaa
