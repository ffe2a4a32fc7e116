/- sync.Once's parts over this program, one goroutine; the table of nibbles. The table of nibbles is filled once. A register is fed. -/
import Derived.Test.YtnhmhnejglpijaaProg
import Derived.Test.YtnhmhnejglpijaaCa
import Derived.Defers
import Derived.Laws.Pointers
import Derived.Laws.LoneSync
import Derived.RegionTactic
import Derived.RegionCalls
import Derived.Deep.RegionHeld3
import Derived.Deep.AppendLies
import Derived.Deep.RegionLaw
namespace Go.Proofs.Ytnhmhnejglpijaa
open Go.RowKit
theorem disable (w : World) : (callFunc 159 #[]).run Try.prog w = .ok (.value (.tuple #[])) w := run_call_mark0 Try.func159 (by kernel_rfl) (by kernel_rfl) (by kernel_rfl) .disable (by kernel_rfl) w
theorem enable (w : World) : (callFunc 161 #[]).run Try.prog w = .ok (.value (.tuple #[])) w := run_call_mark0 Try.func161 (by kernel_rfl) (by kernel_rfl) (by kernel_rfl) .enable (by kernel_rfl) w
theorem acquire (a : Addr) (w : World) : (callFunc 162 #[.pointer (some a)]).run Try.prog w = .ok (.value (.tuple #[])) w := run_call_marked Try.func162 (by kernel_rfl) (by kernel_rfl) (by kernel_rfl) .acquire (by kernel_rfl) a w
theorem releaseMerge (a : Addr) (w : World) : (callFunc 164 #[.pointer (some a)]).run Try.prog w = .ok (.value (.tuple #[])) w := run_call_marked Try.func164 (by kernel_rfl) (by kernel_rfl) (by kernel_rfl) .releaseMerge (by kernel_rfl) a w
theorem store_deferred (a : Addr) (x : Value) (u : FrameMode) (w : World) (hc : w.cell? a = some x) (hz : w.frozen? a = false) :
    CallsD Try.prog 154 #[.pointer (some a), .bool true] u w fun e u' w' => u' = u ∧ (e = .returned (.tuple #[]) ∧ w' = w.drew.setCell a (.int .u32 1)) := by
  have hc' : w.drew.cell? a = some x := by go_simp
  have hz' : w.drew.frozen? a = false := by go_simp
  have hst := run_call_store (P := Try.prog) Try.func157 (by kernel_rfl) (by kernel_rfl) (by kernel_rfl) (by kernel_rfl) (k := .u32) (y := 1) hc' hz'
  go_enter_d Try.func154, Try.ntmps154
  go_wp2
  go_region_calls
  all_goals (go_end0; exact ⟨rfl, rfl⟩)
set_option maxRecDepth 100000 in
theorem unlock_deferred (a : Addr) (u : FrameMode) (w : World) (hc : w.cell? a = some (.int .i32 1)) (hz : w.frozen? a = false) :
    CallsD Try.prog 153 #[.pointer (some a)] u w fun e u' w' => u' = u ∧ (e = .returned (.tuple #[]) ∧ w' = w.setCell a (.int .i32 0)) := by
  have hd := disable
  have he := enable
  have hr := releaseMerge
  have hadd := run_call_add (P := Try.prog) Try.func165 (by kernel_rfl) (by kernel_rfl) (by kernel_rfl) .i32 (by kernel_rfl) (y := -1) (s := 0) hc hz (by simp [go_sem]; rfl)
  have hcv := run_convert_to_unsafe (P := Try.prog) (src := 204) (dst := 208) Try.underlying204 Try.underlying208 (by kernel_rfl) hc
  go_enter_d Try.func153, Try.ntmps153
  go_wp2
  go_end0
  go_wp2
  go_end0
  exact ⟨rfl, rfl⟩
set_option maxRecDepth 100000 in
theorem lock_free (a : Addr) (w : World) (hc : w.cell? a = some (.int .i32 0)) (hz : w.frozen? a = false) :
    Calls Try.prog 152 #[.pointer (some a)] w fun e w' => e = .returned (.tuple #[]) ∧ w' = w.setCell a (.int .i32 1) := by
  have hd := disable
  have he := enable
  have ha := acquire
  have hcas := run_call_cas_hit (P := Try.prog) Try.func160 (by kernel_rfl) (by kernel_rfl) (by kernel_rfl) .i32 (by kernel_rfl) (y := 1) hc hz
  have hc' : (w.setCell a (.int .i32 1)).cell? a = some (.int .i32 1) := World.cell?_setCell_same w a _ hc
  have hcv := run_convert_to_unsafe (P := Try.prog) (src := 204) (dst := 208) Try.underlying204 Try.underlying208 (by kernel_rfl) hc'
  go_enter Try.func152, Try.ntmps152
  go_wp2
  first | go_end0 | (simp only [Exit.inBlock, Exit.then]; refine bodyPost_ret (results_none rfl _ _ _) rfl ?_) | refine bodyPost_ret (results_none rfl _ _ _) rfl ?_
  go_wp2
  go_end0
  exact ⟨rfl, rfl⟩

/-! ### fed -/
section
attribute [local go_sem] bits_xor shr1_nb xor_poly and_1 nb_eq_one
theorem fed_calls (r b : W32) (w : World) : Calls Try.prog 147 #[.int .u32 (nb r), .int .u32 (nb b)] w fun e w' => e = .returned (.int .u32 (nb (fed r b))) ∧ w = w' := by
  have h0 := (nb_range r).1
  by_cases h : (r ^^^ b) &&& 1#32 = 1#32
  · have hb : decide ((r ^^^ b) &&& 1#32 = 1#32) = true := by simp [h]
    have hf : fed r b = (r >>> 1) ^^^ poly := by simp [fed, h]
    rw [hf]
    clear h hf
    go_enter Try.func147, Try.ntmps147
    go_wp2
    go_ret
    exact ⟨rfl, rfl⟩
  · have hb : decide ((r ^^^ b) &&& 1#32 = 1#32) = false := by simp [h]
    have hf : fed r b = (r >>> 1) := by simp [fed, h]
    rw [hf]
    clear h hf
    go_enter Try.func147, Try.ntmps147
    go_wp2
    go_ret
    exact ⟨rfl, rfl⟩
end
end Go.Proofs.Ytnhmhnejglpijaa
namespace Go.Proofs.Ytnhmhnejglpijaa
open Go.RowKit
theorem fed0_calls (r : W32) (w : World) : Calls Try.prog 147 #[.int .u32 (nb r), .int .u32 0] w fun e w' => e = .returned (.int .u32 (nb (fed r 0#32))) ∧ w = w' := fed_calls r 0#32 w
set_option maxRecDepth 100000 in
theorem fill_calls (pl : Addr) (bt : Nat) (d s : Int) (w : World) (hp : w.cell? pl = some (.pointer (some ⟨bt, 0, none⟩))) (hb : pl.block ≠ bt)
    (ht : w.heap[bt]? = some (.cells (tabCells d s 0) 190 (0, 0))) :
    Calls Try.prog 146 #[.pointer (some pl)] w fun e w' => e = .returned (.tuple #[]) ∧ Mod [bt] w w' ∧ w'.heap[bt]? = some (.cells (tabCells d s 16) 190 (0, 0)) := by
  have hlt := World.block_lt_of_cell? w pl hp
  go_enter Try.func146, Try.ntmps146
  go_wp2
  have HT := Lib.hid ht
  clear ht
  go_loopw [3, 1, 2, 8] (fun i _ _ _ wr => ∃ k : Nat, k ≤ 16 ∧ i = .int .i64 k ∧ Mod [bt] w wr ∧ Hid (wr.heap[bt]? = some (.cells (tabCells d s k) 190 (0, 0)))) (fun i _ _ _ _ => 16 - (intOf i).toNat)
  case atStart => exact ⟨0, by omega, rfl, Mod.refl _ _, HT⟩
  case round =>
    obtain ⟨k, hk, rfl, hm, HB⟩ := hrel
    have hpr := (hm.cell hlt (by simpa using hb)).trans hp
    clear hp
    by_cases hlt2 : k < 16
    · have hc := (cell_of_heap (k := 3 + k) HB.out).trans (tab_at d s k k hlt2)
      have hf := free_of_heap (k := 3 + k) HB.out
      have hd : decide ((k : Int) < 16) = true := by simp; omega
      go_wp2
      obtain ⟨wo, rfl⟩ : ∃ wo : World, wo = wr := ⟨_, rfl⟩
      go_loopw [8, 2] (fun j r w2 => ∃ n : Nat, n ≤ 4 ∧ j = .int .i64 n ∧ r = .int .u32 (nb (fedN n (BitVec.ofNat 32 k))) ∧ wo = w2) (fun j _ _ => 4 - (intOf j).toNat)
      case atStart => exact ⟨0, by omega, rfl, by rw [fedN, nb_ofNat (by omega)], rfl⟩
      case round =>
        obtain ⟨n, hn, rfl, rfl, rfl⟩ := hrel
        by_cases hn4 : n < 4
        · go_wp2_with (go_at_call 147; refine (fed0_calls _ _).mono ?_; rintro e w' ⟨rfl, rfl⟩)
          go_roundw
          case rel => exact ⟨n + 1, by omega, by go_num, rfl, trivial⟩
          case measure => simp [intOf]; omega
        · have hd4 : decide ((n : Int) < 4) = false := by simp; omega
          have hn' : nb (fedN n (BitVec.ofNat 32 k)) = nb (nib k) := by rw [show n = 4 by omega]; rfl
          rw [hn']
          clear hn'
          go_wp2
          go_roundw
          case rel => exact ⟨k + 1, by omega, by go_num, hm.setCell (by simp) _, by rw [Hid, heap_setCell_same _ _ _ _ _ _ _ HB.out, tab_set d s k hlt2]⟩
          case measure => simp [intOf]; omega
    · have hd : decide ((k : Int) < 16) = false := by simp; omega
      go_wp2
      go_end0
      exact ⟨rfl, hm, by rw [HB.out, show k = 16 by omega]⟩

set_option maxRecDepth 100000 in
/-- sync.Once's slow road, not yet done, the lock free: the table is filled. -/
theorem slow_calls (pl : Addr) (bt : Nat) (w : World) (hp : w.cell? pl = some (.pointer (some ⟨bt, 0, none⟩))) (hb : pl.block ≠ bt)
    (ht : w.heap[bt]? = some (.cells (tabCells 0 0 0) 190 (0, 0))) :
    Calls Try.prog 150 #[.pointer (some ⟨bt, 0, none⟩), .func (.func 146) #[] #[.pointer (some pl)]] w fun e w' =>
      e = .returned (.tuple #[]) ∧ Mod [bt] w w' ∧ w'.heap[bt]? = some (.cells (tabCells 1 0 16) 190 (0, 0)) := by
  have hlt := World.block_lt_of_cell? w pl hp
  have h0 := (cell_of_heap (k := 0) ht).trans (tab_0 0 0 0)
  have h1 := (cell_of_heap (k := 1) ht).trans (tab_1 0 0 0)
  have f0 := free_of_heap (k := 0) ht
  have f1 := free_of_heap (k := 1) ht
  have hl := run_call_load (P := Try.prog) Try.func151 (by kernel_rfl) (by kernel_rfl) (by kernel_rfl) .u32 (by kernel_rfl) (w := w.setCell ⟨bt, 1, none⟩ (.int .i32 1)) (a := ⟨bt, 0, none⟩) (x := 0) ((World.cell?_setCell_other _ ⟨bt, 1, none⟩ ⟨bt, 0, none⟩ _ (by simp)).trans h0)
  have ht1 : (w.setCell ⟨bt, 1, none⟩ (.int .i32 1)).heap[bt]? = some (.cells (tabCells 0 1 0) 190 (0, 0)) := by rw [heap_setCell_same _ _ _ _ _ _ _ ht, tab_set1]
  have hp1 : (w.setCell ⟨bt, 1, none⟩ (.int .i32 1)).cell? pl = some (.pointer (some ⟨bt, 0, none⟩)) := (World.cell?_setCell_other _ ⟨bt, 1, none⟩ pl _ (fun h => hb (by rw [← h]))).trans hp
  have HT := Lib.hid ht1
  have HP := Lib.hid hp1
  have hnot : ∀ (x : Bool) (w : World), (Op.unary .not (.bool x)).run Try.prog w = .ok (.bool (!x)) w := fun _ _ => rfl
  clear ht ht1 hp hp1
  go_enter_defers Try.func150, Try.ntmps150
  go_wp2_with (first | (go_at_call 152; refine (lock_free ⟨bt, 1, none⟩ _ h1 f1).mono ?_; rintro e w' ⟨rfl, rfl⟩) | (go_at_call 149; go_in) | (go_at_call 146; refine (fill_calls pl bt 0 1 _ HP.out hb HT.out).mono ?_; rintro e w2 ⟨rfl, hm2, hb2⟩))
  refine leaves_cons (f := 154) (args := #[.pointer (some ⟨bt, 0, none⟩), .bool true]) (by simp) (by simp [go_sem]) ?_
  refine (store_deferred ⟨bt, 0, none⟩ (.int .u32 0) .returning _ ((cell_of_heap hb2).trans (tab_0 ..)) (free_of_heap hb2)).mono ?_
  rintro e u' w'' ⟨rfl, rfl, rfl⟩
  have hb3 : (w2.drew.setCell ⟨bt, 0, none⟩ (.int .u32 1)).heap[bt]? = some (.cells (tabCells 1 1 16) 190 (0, 0)) := by rw [heap_setCell_same w2.drew _ _ _ _ _ _ hb2, tab_set0]
  refine leaves_cons (f := 153) (args := #[.pointer (some ⟨bt, 1, none⟩)]) (by simp [settle]) (by simp [go_sem]) ?_
  refine (unlock_deferred ⟨bt, 1, none⟩ _ _ ((cell_of_heap hb3).trans (tab_1 ..)) (free_of_heap hb3)).mono ?_
  rintro e u' w'' ⟨rfl, rfl, rfl⟩
  have hfin : Mod [bt] w ((w2.drew.setCell ⟨bt, 0, none⟩ (.int .u32 1)).setCell ⟨bt, 1, none⟩ (.int .i32 0)) :=
    (((((Mod.refl [bt] w).setCell (p := ⟨bt, 1, none⟩) (by simp) _).trans hm2).drew).setCell (p := ⟨bt, 0, none⟩) (by simp) _).setCell (p := ⟨bt, 1, none⟩) (by simp) _
  refine ⟨_, results_none rfl _ _ _, rfl, hfin, ?_⟩
  rw [heap_setCell_same _ _ _ _ _ _ _ hb3, tab_set1]
set_option maxRecDepth 100000 in
/-- sync.Once.Do: the first time. -/
theorem do_first (pl : Addr) (bt : Nat) (w : World) (hp : w.cell? pl = some (.pointer (some ⟨bt, 0, none⟩))) (hb : pl.block ≠ bt)
    (ht : w.heap[bt]? = some (.cells (tabCells 0 0 0) 190 (0, 0))) :
    Calls Try.prog 145 #[.pointer (some ⟨bt, 0, none⟩), .func (.func 146) #[] #[.pointer (some pl)]] w fun e w' =>
      e = .returned (.tuple #[]) ∧ Mod [bt] w w' ∧ w'.heap[bt]? = some (.cells (tabCells 1 0 16) 190 (0, 0)) := by
  have hl := run_call_load (P := Try.prog) Try.func151 (by kernel_rfl) (by kernel_rfl) (by kernel_rfl) .u32 (by kernel_rfl) (a := ⟨bt, 0, none⟩) (x := 0) ((cell_of_heap (k := 0) ht).trans (tab_0 0 0 0))
  have hnot : ∀ (x : Bool) (w : World), (Op.unary .not (.bool x)).run Try.prog w = .ok (.bool (!x)) w := fun _ _ => rfl
  have HT := Lib.hid ht
  have HP := Lib.hid hp
  clear ht hp
  go_enter Try.func145, Try.ntmps145
  go_wp2_with (first | (go_at_call 150; refine (slow_calls pl bt _ HP.out hb HT.out).mono ?_; rintro e w2 ⟨rfl, hm2, hb2⟩) | (go_at_call 149; go_in))
  go_end0
  exact ⟨rfl, hm2, hb2⟩
/-- sync.Once.Do: done already. -/
theorem do_done (bt : Nat) (fv : Value) (w : World) (ht : w.heap[bt]? = some (.cells (tabCells 1 0 16) 190 (0, 0))) :
    Calls Try.prog 145 #[.pointer (some ⟨bt, 0, none⟩), fv] w fun e w' => e = .returned (.tuple #[]) ∧ w = w' := by
  have hl := run_call_load (P := Try.prog) Try.func151 (by kernel_rfl) (by kernel_rfl) (by kernel_rfl) .u32 (by kernel_rfl) (a := ⟨bt, 0, none⟩) (x := 1) ((cell_of_heap (k := 0) ht).trans (tab_0 1 0 16))
  have hnot : ∀ (x : Bool) (w : World), (Op.unary .not (.bool x)).run Try.prog w = .ok (.bool (!x)) w := fun _ _ => rfl
  clear ht
  go_enter Try.func145, Try.ntmps145
  go_wp2
  go_end0
  exact ⟨rfl, rfl⟩
/-- A table: fresh, or filled. -/
def TabAt (w : World) (bt : Nat) : Prop := w.heap[bt]? = some (.cells (tabCells 0 0 0) 190 (0, 0)) ∨ w.heap[bt]? = some (.cells (tabCells 1 0 16) 190 (0, 0))
theorem do_calls (pl : Addr) (bt : Nat) (w : World) (hp : w.cell? pl = some (.pointer (some ⟨bt, 0, none⟩))) (hb : pl.block ≠ bt) (ht : TabAt w bt) :
    Calls Try.prog 145 #[.pointer (some ⟨bt, 0, none⟩), .func (.func 146) #[] #[.pointer (some pl)]] w fun e w' =>
      e = .returned (.tuple #[]) ∧ Mod [bt] w w' ∧ w'.heap[bt]? = some (.cells (tabCells 1 0 16) 190 (0, 0)) := by
  rcases ht with ht | ht
  · exact do_first pl bt w hp hb ht
  · refine (do_done bt _ w ht).mono ?_
    rintro e w' ⟨rfl, rfl⟩
    exact ⟨rfl, Mod.refl _ _, ht⟩
set_option maxRecDepth 100000 in
theorem at_calls0 (bt : Nat) (x : W32) (k : Nat) (hk : k < 16) (hx : nb x = k) (w : World) (ht : TabAt w bt) :
    Calls Try.prog 141 #[.pointer (some ⟨bt, 0, none⟩), .int .u32 (nb x)] w fun e w' =>
      e = .returned (.int .u32 (nb (nib k))) ∧ Mod [bt] w w' ∧ TabAt w' bt := by
  rw [hx]
  clear hx
  have hbt : bt < w.heap.size := by rcases ht with ht | ht <;> exact lt_of_heap ht
  have ht1 : TabAt (w.alloc (.cells #[.pointer (some ⟨bt, 0, none⟩)] 171)) bt := by
    unfold TabAt
    rw [Below.heap_alloc _ _ _ hbt]
    exact ht
  have hmf : ∀ (fn : Fn) (first cap : Array Value) (w : World), (Instr.makeFunc fn first cap).run Try.prog w = .ok (.func fn first cap) w := fun _ _ _ _ => rfl
  have hp : (w.alloc (.cells #[.pointer (some ⟨bt, 0, none⟩)] 171)).cell? ⟨w.heap.size, 0, none⟩ = some (.pointer (some ⟨bt, 0, none⟩)) := by simp
  have HT := Lib.hid ht1
  clear ht ht1
  go_enter Try.func141, Try.ntmps141
  go_wp2_with (go_at_call 145; refine (do_calls ⟨w.heap.size, 0, none⟩ bt _ hp (by simp; omega) HT.out).mono ?_; rintro e w2 ⟨rfl, hm2, hb2⟩; have hp2 := (hm2.cell (p := ⟨w.heap.size, 0, none⟩) (by simp) (by simp; omega)).trans hp; have hc2 := (cell_of_heap (k := 3 + k) hb2).trans ((tab_at 1 0 16 k hk).trans (by rw [if_pos hk])); have HB := Lib.hid hb2; clear hb2)
  go_ret
  exact ⟨rfl, ((Mod.refl [bt] w).alloc _).trans hm2, .inr HB.out⟩
theorem at_calls (bt : Nat) (y : W32) (w : World) (ht : TabAt w bt) :
    Calls Try.prog 141 #[.pointer (some ⟨bt, 0, none⟩), .int .u32 (nb (y &&& 15#32))] w fun e w' =>
      e = .returned (.int .u32 (nb (nibW (y &&& 15#32)))) ∧ Mod [bt] w w' ∧ TabAt w' bt :=
  at_calls0 bt _ _ (and15_lt y) rfl w ht
end Go.Proofs.Ytnhmhnejglpijaa
namespace Go.Proofs.Ytnhmhnejglpijaa
open Go.RowKit
/-- A register, and its table. -/
def RegAt (w : World) (br bt : Nat) (x : W32) : Prop := w.heap[br]? = some (.cells #[.pointer (some ⟨bt, 0, none⟩), .int .u32 (nb x)] 173 (0, 0))
theorem RegAt.c0 {w : World} {br bt : Nat} {x : W32} (h : RegAt w br bt x) : w.cell? ⟨br, 0, none⟩ = some (.pointer (some ⟨bt, 0, none⟩)) := cell_of_heap h
theorem RegAt.c1 {w : World} {br bt : Nat} {x : W32} (h : RegAt w br bt x) : w.cell? ⟨br, 1, none⟩ = some (.int .u32 (nb x)) := cell_of_heap h
theorem RegAt.f1 {w : World} {br bt : Nat} {x : W32} (h : RegAt w br bt x) : w.frozen? ⟨br, 1, none⟩ = false := free_of_heap h
theorem RegAt.set {w : World} {br bt : Nat} {x : W32} (h : RegAt w br bt x) (y : W32) : RegAt (w.setCell ⟨br, 1, none⟩ (.int .u32 (nb y))) br bt y := by
  unfold RegAt
  rw [heap_setCell_same _ _ _ _ _ _ _ h]
  rfl
theorem RegAt.mod {w w' : World} {br bt : Nat} {x : W32} {L : List Nat} (h : RegAt w br bt x) (hm : Mod L w w') (hL : br ∉ L) : RegAt w' br bt x := by
  unfold RegAt at *
  rw [hm.block _ (lt_of_heap h) hL]
  exact h
theorem TabAt.lt {w : World} {bt : Nat} (h : TabAt w bt) : bt < w.heap.size := by rcases h with h | h <;> exact lt_of_heap h
theorem TabAt.mod {w w' : World} {bt : Nat} {L : List Nat} (h : TabAt w bt) (hm : Mod L w w') (hL : bt ∉ L) : TabAt w' bt := by
  have hb := hm.block _ h.lt hL
  unfold TabAt at *
  rw [hb]
  exact h
section
attribute [local go_sem] bits_xor xor_bn shr4_nb and_15
set_option maxRecDepth 100000 in
theorem feed_calls (br bt : Nat) (hne : br ≠ bt) (x : W32) (b : B8) (w : World) (hr : RegAt w br bt x) (ht : TabAt w bt) :
    Calls Try.prog 134 #[.pointer (some ⟨br, 0, none⟩), .int .u8 (bn b)] w fun e w' =>
      e = .returned (.tuple #[]) ∧ Mod [br, bt] w w' ∧ RegAt w' br bt (feedByte x b) ∧ TabAt w' bt := by
  have c1 := hr.c1
  have f1 := hr.f1
  have hbn := bn_range b
  have HR := Lib.hid (hr.set (x ^^^ b.setWidth 32))
  have HT := Lib.hid (ht.mod ((Mod.refl [br] w).setCell (p := ⟨br, 1, none⟩) (by simp) (.int .u32 (nb (x ^^^ b.setWidth 32)))) (by simp; omega))
  clear hr ht
  go_enter Try.func134, Try.ntmps134
  go_wp2
  generalize hw : w.setCell ⟨br, 1, none⟩ (.int .u32 (nb (x ^^^ b.setWidth 32))) = W at *
  have hm0 : Mod [br, bt] w W := by rw [← hw]; exact (Mod.refl _ _).setCell (by simp) _
  clear hw c1 f1
  go_loopw [13] (fun i wr => ∃ k : Nat, k ≤ 2 ∧ i = .int .i64 k ∧ Mod [br, bt] w wr ∧ Hid (RegAt wr br bt (Nat.rec (x ^^^ b.setWidth 32) (fun _ y => half y) k)) ∧ Hid (TabAt wr bt)) (fun i _ => 2 - (intOf i).toNat)
  case atStart => exact ⟨0, by omega, rfl, hm0, HR, HT⟩
  case round =>
    obtain ⟨k, hk, rfl, hm, HR1, HT1⟩ := hrel
    by_cases hlt : k < 2
    · generalize hy : (Nat.rec (x ^^^ b.setWidth 32) (fun _ y => half y) k : W32) = y at *
      have HY := Lib.hid hy
      clear hy
      have c0 := HR1.out.c0
      have c1 := HR1.out.c1
      have hy0 := (nb_range y).1
      go_wp2
      have f1 := HR1.out.f1
      go_region_law (first | (go_simp; go_at_call 141; refine (at_calls bt y wr.drew HT1.out).mono ?_; rintro e w2 ⟨rfl, hm2, ht2⟩; have hr2 := RegAt.mod (w := wr.drew) HR1.out hm2 (by simp; omega); have k0 := hr2.c0; have k1 := hr2.c1; have k2 := hr2.f1; have HR2 := Lib.hid hr2; have HT2 := Lib.hid ht2; clear hr2 ht2))
      all_goals
        have hr3 := HR2.out.set (half y)
        have hm3 : Mod [br, bt] w (w2.setCell ⟨br, 1, none⟩ (.int .u32 (nb (half y)))) := ((hm.drew).trans (hm2.mono (fun i _ h => List.mem_cons_of_mem _ h))).setCell (by simp) _
        have ht3 := HT2.out.mod ((Mod.refl [br] w2).setCell (p := ⟨br, 1, none⟩) (by simp) (.int .u32 (nb (half y)))) (by simp; omega)
        have HR3 := Lib.hid hr3
        have HT3 := Lib.hid ht3
        clear hr3 ht3
        go_wp2
        go_roundw
        case rel => exact ⟨k + 1, by omega, by go_num, hm3, by show RegAt _ _ _ (half _); rw [HY.out]; exact HR3, HT3⟩
        case measure => simp [intOf]; omega
    · have hd : decide ((k : Int) < 2) = false := by simp; omega
      go_wp2
      go_end0
      refine ⟨rfl, hm, ?_, HT1.out⟩
      have h2 : k = 2 := by omega
      subst h2
      exact HR1.out
end
end Go.Proofs.Ytnhmhnejglpijaa
