/- The table of nibbles is filled once. -/
import Derived.Test.YtekbjgnlaompbaaCb
namespace Go.Proofs.Ytekbjgnlaompbaa
open Go.RowKit
theorem fed0_calls (r : W32) (w : World) : Calls Try.prog 43 #[.int .u32 (nb r), .int .u32 0] w fun e w' => e = .returned (.int .u32 (nb (fed r 0#32))) ∧ w = w' := fed_calls r 0#32 w
set_option maxRecDepth 100000 in
theorem fill_calls (pl : Addr) (bt : Nat) (d s : Int) (w : World) (hp : w.cell? pl = some (.pointer (some ⟨bt, 0, none⟩))) (hb : pl.block ≠ bt)
    (ht : w.heap[bt]? = some (.cells (tabCells d s 0) 74 (0, 0))) :
    Calls Try.prog 42 #[.pointer (some pl)] w fun e w' => e = .returned (.tuple #[]) ∧ Mod [bt] w w' ∧ w'.heap[bt]? = some (.cells (tabCells d s 16) 74 (0, 0)) := by
  have hlt := World.block_lt_of_cell? w pl hp
  go_enter Try.func42, Try.ntmps42
  go_wp2
  have HT := Lib.hid ht
  clear ht
  go_loopw [3, 1, 2, 8] (fun i _ _ _ wr => ∃ k : Nat, k ≤ 16 ∧ i = .int .i64 k ∧ Mod [bt] w wr ∧ Hid (wr.heap[bt]? = some (.cells (tabCells d s k) 74 (0, 0)))) (fun i _ _ _ _ => 16 - (intOf i).toNat)
  case atStart => exact ⟨0, by omega, rfl, Mod.refl _ _, HT⟩
  case round =>
    obtain ⟨k, hk, rfl, hm, HB⟩ := hrel
    have hpr := (hm.cell hlt (by simpa using hb)).trans hp
    clear hp
    by_cases hlt2 : k < 16
    · have hc := (cell_of_heap (k := 3 + k) HB.out).trans (tab_at d s k k hlt2)
      have hf := free_of_heap (k := 3 + k) HB.out
      have hd : decide ((k : Int) < 16) = true := by simp; omega
      go_wp2
      obtain ⟨wo, rfl⟩ : ∃ wo : World, wo = wr := ⟨_, rfl⟩
      go_loopw [8, 2] (fun j r w2 => ∃ n : Nat, n ≤ 4 ∧ j = .int .i64 n ∧ r = .int .u32 (nb (fedN n (BitVec.ofNat 32 k))) ∧ wo = w2) (fun j _ _ => 4 - (intOf j).toNat)
      case atStart => exact ⟨0, by omega, rfl, by rw [fedN, nb_ofNat (by omega)], rfl⟩
      case round =>
        obtain ⟨n, hn, rfl, rfl, rfl⟩ := hrel
        by_cases hn4 : n < 4
        · go_wp2_with (go_at_call 43; refine (fed0_calls _ _).mono ?_; rintro e w' ⟨rfl, rfl⟩)
          go_roundw
          case rel => exact ⟨n + 1, by omega, by go_num, rfl, trivial⟩
          case measure => simp [intOf]; omega
        · have hd4 : decide ((n : Int) < 4) = false := by simp; omega
          have hn' : nb (fedN n (BitVec.ofNat 32 k)) = nb (nib k) := by rw [show n = 4 by omega]; rfl
          rw [hn']
          clear hn'
          go_wp2
          go_roundw
          case rel => exact ⟨k + 1, by omega, by go_num, hm.setCell (by simp) _, by rw [Hid, heap_setCell_same _ _ _ _ _ _ _ HB.out, tab_set d s k hlt2]⟩
          case measure => simp [intOf]; omega
    · have hd : decide ((k : Int) < 16) = false := by simp; omega
      go_wp2
      go_end0
      exact ⟨rfl, hm, by rw [HB.out, show k = 16 by omega]⟩

set_option maxRecDepth 100000 in
/-- sync.Once's slow road, not yet done, the lock free: the table is filled. -/
theorem slow_calls (pl : Addr) (bt : Nat) (w : World) (hp : w.cell? pl = some (.pointer (some ⟨bt, 0, none⟩))) (hb : pl.block ≠ bt)
    (ht : w.heap[bt]? = some (.cells (tabCells 0 0 0) 74 (0, 0))) :
    Calls Try.prog 45 #[.pointer (some ⟨bt, 0, none⟩), .func (.func 42) #[] #[.pointer (some pl)]] w fun e w' =>
      e = .returned (.tuple #[]) ∧ Mod [bt] w w' ∧ w'.heap[bt]? = some (.cells (tabCells 1 0 16) 74 (0, 0)) := by
  have hlt := World.block_lt_of_cell? w pl hp
  have h0 := (cell_of_heap (k := 0) ht).trans (tab_0 0 0 0)
  have h1 := (cell_of_heap (k := 1) ht).trans (tab_1 0 0 0)
  have f0 := free_of_heap (k := 0) ht
  have f1 := free_of_heap (k := 1) ht
  have hl := run_call_load (P := Try.prog) Try.func46 (by kernel_rfl) (by kernel_rfl) (by kernel_rfl) .u32 (by kernel_rfl) (w := w.setCell ⟨bt, 1, none⟩ (.int .i32 1)) (a := ⟨bt, 0, none⟩) (x := 0) ((World.cell?_setCell_other _ ⟨bt, 1, none⟩ ⟨bt, 0, none⟩ _ (by simp)).trans h0)
  have ht1 : (w.setCell ⟨bt, 1, none⟩ (.int .i32 1)).heap[bt]? = some (.cells (tabCells 0 1 0) 74 (0, 0)) := by rw [heap_setCell_same _ _ _ _ _ _ _ ht, tab_set1]
  have hp1 : (w.setCell ⟨bt, 1, none⟩ (.int .i32 1)).cell? pl = some (.pointer (some ⟨bt, 0, none⟩)) := (World.cell?_setCell_other _ ⟨bt, 1, none⟩ pl _ (fun h => hb (by rw [← h]))).trans hp
  have HT := Lib.hid ht1
  have HP := Lib.hid hp1
  have hnot : ∀ (x : Bool) (w : World), (Op.unary .not (.bool x)).run Try.prog w = .ok (.bool (!x)) w := fun _ _ => rfl
  clear ht ht1 hp hp1
  go_enter_defers Try.func45, Try.ntmps45
  go_wp2_with (first | (go_at_call 47; refine (lock_free ⟨bt, 1, none⟩ _ h1 f1).mono ?_; rintro e w' ⟨rfl, rfl⟩) | (go_at_call 44; go_in) | (go_at_call 42; refine (fill_calls pl bt 0 1 _ HP.out hb HT.out).mono ?_; rintro e w2 ⟨rfl, hm2, hb2⟩))
  refine leaves_cons (f := 49) (args := #[.pointer (some ⟨bt, 0, none⟩), .bool true]) (by simp) (by simp [go_sem]) ?_
  refine (store_deferred ⟨bt, 0, none⟩ (.int .u32 0) .returning _ ((cell_of_heap hb2).trans (tab_0 ..)) (free_of_heap hb2)).mono ?_
  rintro e u' w'' ⟨rfl, rfl, rfl⟩
  have hb3 : (w2.drew.setCell ⟨bt, 0, none⟩ (.int .u32 1)).heap[bt]? = some (.cells (tabCells 1 1 16) 74 (0, 0)) := by rw [heap_setCell_same w2.drew _ _ _ _ _ _ hb2, tab_set0]
  refine leaves_cons (f := 48) (args := #[.pointer (some ⟨bt, 1, none⟩)]) (by simp [settle]) (by simp [go_sem]) ?_
  refine (unlock_deferred ⟨bt, 1, none⟩ _ _ ((cell_of_heap hb3).trans (tab_1 ..)) (free_of_heap hb3)).mono ?_
  rintro e u' w'' ⟨rfl, rfl, rfl⟩
  have hfin : Mod [bt] w ((w2.drew.setCell ⟨bt, 0, none⟩ (.int .u32 1)).setCell ⟨bt, 1, none⟩ (.int .i32 0)) :=
    (((((Mod.refl [bt] w).setCell (p := ⟨bt, 1, none⟩) (by simp) _).trans hm2).drew).setCell (p := ⟨bt, 0, none⟩) (by simp) _).setCell (p := ⟨bt, 1, none⟩) (by simp) _
  refine ⟨_, results_none rfl _ _ _, rfl, hfin, ?_⟩
  rw [heap_setCell_same _ _ _ _ _ _ _ hb3, tab_set1]
set_option maxRecDepth 100000 in
/-- sync.Once.Do: the first time. -/
theorem do_first (pl : Addr) (bt : Nat) (w : World) (hp : w.cell? pl = some (.pointer (some ⟨bt, 0, none⟩))) (hb : pl.block ≠ bt)
    (ht : w.heap[bt]? = some (.cells (tabCells 0 0 0) 74 (0, 0))) :
    Calls Try.prog 41 #[.pointer (some ⟨bt, 0, none⟩), .func (.func 42) #[] #[.pointer (some pl)]] w fun e w' =>
      e = .returned (.tuple #[]) ∧ Mod [bt] w w' ∧ w'.heap[bt]? = some (.cells (tabCells 1 0 16) 74 (0, 0)) := by
  have hl := run_call_load (P := Try.prog) Try.func46 (by kernel_rfl) (by kernel_rfl) (by kernel_rfl) .u32 (by kernel_rfl) (a := ⟨bt, 0, none⟩) (x := 0) ((cell_of_heap (k := 0) ht).trans (tab_0 0 0 0))
  have hnot : ∀ (x : Bool) (w : World), (Op.unary .not (.bool x)).run Try.prog w = .ok (.bool (!x)) w := fun _ _ => rfl
  have HT := Lib.hid ht
  have HP := Lib.hid hp
  clear ht hp
  go_enter Try.func41, Try.ntmps41
  go_wp2_with (first | (go_at_call 45; refine (slow_calls pl bt _ HP.out hb HT.out).mono ?_; rintro e w2 ⟨rfl, hm2, hb2⟩) | (go_at_call 44; go_in))
  go_end0
  exact ⟨rfl, hm2, hb2⟩
/-- sync.Once.Do: done already. -/
theorem do_done (bt : Nat) (fv : Value) (w : World) (ht : w.heap[bt]? = some (.cells (tabCells 1 0 16) 74 (0, 0))) :
    Calls Try.prog 41 #[.pointer (some ⟨bt, 0, none⟩), fv] w fun e w' => e = .returned (.tuple #[]) ∧ w = w' := by
  have hl := run_call_load (P := Try.prog) Try.func46 (by kernel_rfl) (by kernel_rfl) (by kernel_rfl) .u32 (by kernel_rfl) (a := ⟨bt, 0, none⟩) (x := 1) ((cell_of_heap (k := 0) ht).trans (tab_0 1 0 16))
  have hnot : ∀ (x : Bool) (w : World), (Op.unary .not (.bool x)).run Try.prog w = .ok (.bool (!x)) w := fun _ _ => rfl
  clear ht
  go_enter Try.func41, Try.ntmps41
  go_wp2
  go_end0
  exact ⟨rfl, rfl⟩
/-- A table: fresh, or filled. -/
def TabAt (w : World) (bt : Nat) : Prop := w.heap[bt]? = some (.cells (tabCells 0 0 0) 74 (0, 0)) ∨ w.heap[bt]? = some (.cells (tabCells 1 0 16) 74 (0, 0))
theorem do_calls (pl : Addr) (bt : Nat) (w : World) (hp : w.cell? pl = some (.pointer (some ⟨bt, 0, none⟩))) (hb : pl.block ≠ bt) (ht : TabAt w bt) :
    Calls Try.prog 41 #[.pointer (some ⟨bt, 0, none⟩), .func (.func 42) #[] #[.pointer (some pl)]] w fun e w' =>
      e = .returned (.tuple #[]) ∧ Mod [bt] w w' ∧ w'.heap[bt]? = some (.cells (tabCells 1 0 16) 74 (0, 0)) := by
  rcases ht with ht | ht
  · exact do_first pl bt w hp hb ht
  · refine (do_done bt _ w ht).mono ?_
    rintro e w' ⟨rfl, rfl⟩
    exact ⟨rfl, Mod.refl _ _, ht⟩
set_option maxRecDepth 100000 in
theorem at_calls0 (bt : Nat) (x : W32) (k : Nat) (hk : k < 16) (hx : nb x = k) (w : World) (ht : TabAt w bt) :
    Calls Try.prog 39 #[.pointer (some ⟨bt, 0, none⟩), .int .u32 (nb x)] w fun e w' =>
      e = .returned (.int .u32 (nb (nib k))) ∧ Mod [bt] w w' ∧ TabAt w' bt := by
  rw [hx]
  clear hx
  have hbt : bt < w.heap.size := by rcases ht with ht | ht <;> exact lt_of_heap ht
  have ht1 : TabAt (w.alloc (.cells #[.pointer (some ⟨bt, 0, none⟩)] 60)) bt := by
    unfold TabAt
    rw [Below.heap_alloc _ _ _ hbt]
    exact ht
  have hmf : ∀ (fn : Fn) (first cap : Array Value) (w : World), (Instr.makeFunc fn first cap).run Try.prog w = .ok (.func fn first cap) w := fun _ _ _ _ => rfl
  have hp : (w.alloc (.cells #[.pointer (some ⟨bt, 0, none⟩)] 60)).cell? ⟨w.heap.size, 0, none⟩ = some (.pointer (some ⟨bt, 0, none⟩)) := by simp
  have HT := Lib.hid ht1
  clear ht ht1
  go_enter Try.func39, Try.ntmps39
  go_wp2_with (go_at_call 41; refine (do_calls ⟨w.heap.size, 0, none⟩ bt _ hp (by simp; omega) HT.out).mono ?_; rintro e w2 ⟨rfl, hm2, hb2⟩; have hp2 := (hm2.cell (p := ⟨w.heap.size, 0, none⟩) (by simp) (by simp; omega)).trans hp; have hc2 := (cell_of_heap (k := 3 + k) hb2).trans ((tab_at 1 0 16 k hk).trans (by rw [if_pos hk])); have HB := Lib.hid hb2; clear hb2)
  go_ret
  exact ⟨rfl, ((Mod.refl [bt] w).alloc _).trans hm2, .inr HB.out⟩
theorem at_calls (bt : Nat) (y : W32) (w : World) (ht : TabAt w bt) :
    Calls Try.prog 39 #[.pointer (some ⟨bt, 0, none⟩), .int .u32 (nb (y &&& 15#32))] w fun e w' =>
      e = .returned (.int .u32 (nb (nibW (y &&& 15#32)))) ∧ Mod [bt] w w' ∧ TabAt w' bt :=
  at_calls0 bt _ _ (and15_lt y) rfl w ht
end Go.Proofs.Ytekbjgnlaompbaa
