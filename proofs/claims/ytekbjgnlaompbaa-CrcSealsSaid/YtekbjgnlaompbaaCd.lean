/- A register is fed. -/
import Derived.Test.YtekbjgnlaompbaaCc
import Derived.Deep.RegionHeld3
import Derived.Deep.AppendLies
import Derived.Deep.RegionLaw
namespace Go.Proofs.Ytekbjgnlaompbaa
open Go.RowKit
/-- A register, and its table. -/
def RegAt (w : World) (br bt : Nat) (x : W32) : Prop := w.heap[br]? = some (.cells #[.pointer (some ⟨bt, 0, none⟩), .int .u32 (nb x)] 77 (0, 0))
theorem RegAt.c0 {w : World} {br bt : Nat} {x : W32} (h : RegAt w br bt x) : w.cell? ⟨br, 0, none⟩ = some (.pointer (some ⟨bt, 0, none⟩)) := cell_of_heap h
theorem RegAt.c1 {w : World} {br bt : Nat} {x : W32} (h : RegAt w br bt x) : w.cell? ⟨br, 1, none⟩ = some (.int .u32 (nb x)) := cell_of_heap h
theorem RegAt.f1 {w : World} {br bt : Nat} {x : W32} (h : RegAt w br bt x) : w.frozen? ⟨br, 1, none⟩ = false := free_of_heap h
theorem RegAt.set {w : World} {br bt : Nat} {x : W32} (h : RegAt w br bt x) (y : W32) : RegAt (w.setCell ⟨br, 1, none⟩ (.int .u32 (nb y))) br bt y := by
  unfold RegAt
  rw [heap_setCell_same _ _ _ _ _ _ _ h]
  rfl
theorem RegAt.mod {w w' : World} {br bt : Nat} {x : W32} {L : List Nat} (h : RegAt w br bt x) (hm : Mod L w w') (hL : br ∉ L) : RegAt w' br bt x := by
  unfold RegAt at *
  rw [hm.block _ (lt_of_heap h) hL]
  exact h
theorem TabAt.lt {w : World} {bt : Nat} (h : TabAt w bt) : bt < w.heap.size := by rcases h with h | h <;> exact lt_of_heap h
theorem TabAt.mod {w w' : World} {bt : Nat} {L : List Nat} (h : TabAt w bt) (hm : Mod L w w') (hL : bt ∉ L) : TabAt w' bt := by
  have hb := hm.block _ h.lt hL
  unfold TabAt at *
  rw [hb]
  exact h
section
attribute [local go_sem] bits_xor xor_bn shr4_nb and_15
set_option maxRecDepth 100000 in
theorem feed_calls (br bt : Nat) (hne : br ≠ bt) (x : W32) (b : B8) (w : World) (hr : RegAt w br bt x) (ht : TabAt w bt) :
    Calls Try.prog 35 #[.pointer (some ⟨br, 0, none⟩), .int .u8 (bn b)] w fun e w' =>
      e = .returned (.tuple #[]) ∧ Mod [br, bt] w w' ∧ RegAt w' br bt (feedByte x b) ∧ TabAt w' bt := by
  have c1 := hr.c1
  have f1 := hr.f1
  have hbn := bn_range b
  have HR := Lib.hid (hr.set (x ^^^ b.setWidth 32))
  have HT := Lib.hid (ht.mod ((Mod.refl [br] w).setCell (p := ⟨br, 1, none⟩) (by simp) (.int .u32 (nb (x ^^^ b.setWidth 32)))) (by simp; omega))
  clear hr ht
  go_enter Try.func35, Try.ntmps35
  go_wp2
  generalize hw : w.setCell ⟨br, 1, none⟩ (.int .u32 (nb (x ^^^ b.setWidth 32))) = W at *
  have hm0 : Mod [br, bt] w W := by rw [← hw]; exact (Mod.refl _ _).setCell (by simp) _
  clear hw c1 f1
  go_loopw [13] (fun i wr => ∃ k : Nat, k ≤ 2 ∧ i = .int .i64 k ∧ Mod [br, bt] w wr ∧ Hid (RegAt wr br bt (Nat.rec (x ^^^ b.setWidth 32) (fun _ y => half y) k)) ∧ Hid (TabAt wr bt)) (fun i _ => 2 - (intOf i).toNat)
  case atStart => exact ⟨0, by omega, rfl, hm0, HR, HT⟩
  case round =>
    obtain ⟨k, hk, rfl, hm, HR1, HT1⟩ := hrel
    by_cases hlt : k < 2
    · generalize hy : (Nat.rec (x ^^^ b.setWidth 32) (fun _ y => half y) k : W32) = y at *
      have HY := Lib.hid hy
      clear hy
      have c0 := HR1.out.c0
      have c1 := HR1.out.c1
      have hy0 := (nb_range y).1
      go_wp2
      have f1 := HR1.out.f1
      go_region_law (first | (go_simp; go_at_call 39; refine (at_calls bt y wr.drew HT1.out).mono ?_; rintro e w2 ⟨rfl, hm2, ht2⟩; have hr2 := RegAt.mod (w := wr.drew) HR1.out hm2 (by simp; omega); have k0 := hr2.c0; have k1 := hr2.c1; have k2 := hr2.f1; have HR2 := Lib.hid hr2; have HT2 := Lib.hid ht2; clear hr2 ht2))
      all_goals
        have hr3 := HR2.out.set (half y)
        have hm3 : Mod [br, bt] w (w2.setCell ⟨br, 1, none⟩ (.int .u32 (nb (half y)))) := ((hm.drew).trans (hm2.mono (fun i _ h => List.mem_cons_of_mem _ h))).setCell (by simp) _
        have ht3 := HT2.out.mod ((Mod.refl [br] w2).setCell (p := ⟨br, 1, none⟩) (by simp) (.int .u32 (nb (half y)))) (by simp; omega)
        have HR3 := Lib.hid hr3
        have HT3 := Lib.hid ht3
        clear hr3 ht3
        go_wp2
        go_roundw
        case rel => exact ⟨k + 1, by omega, by go_num, hm3, by show RegAt _ _ _ (half _); rw [HY.out]; exact HR3, HT3⟩
        case measure => simp [intOf]; omega
    · have hd : decide ((k : Int) < 2) = false := by simp; omega
      go_wp2
      go_end0
      refine ⟨rfl, hm, ?_, HT1.out⟩
      have h2 : k = 2 := by omega
      subst h2
      exact HR1.out
end
end Go.Proofs.Ytekbjgnlaompbaa
