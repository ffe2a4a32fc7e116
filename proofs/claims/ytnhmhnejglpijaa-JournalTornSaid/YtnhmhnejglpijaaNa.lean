/- net: tries and need: what panics with an error, and what takes it up. -/
import Derived.Test.YtnhmhnejglpijaaCd
import Derived.Recover
import Derived.Shelf.Abstract
import Derived.Shelf.RegionOpen
import Derived.WalkSmall
import Derived.Defers
import Derived.Laws.Pointers
namespace Go.Proofs.Ytnhmhnejglpijaa
open Go.RowKit
set_option linter.unusedSimpArgs false
set_option linter.unusedVariables false
/-- a panic with an error -/
abbrev errP (n : Int) : Ending := .panicked [{ v := .iface 28 (.int .i64 n), recovered := false }]
theorem need_ok (n : Int) (w : World) : Calls Try.prog 62 #[.bool true, .int .i64 n] w fun e w' => e = .returned (.tuple #[]) ∧ w = w' := by
  go_enter Try.func62, Try.ntmps62
  go_wp2
  go_end0
  exact ⟨rfl, rfl⟩
theorem need_no (n : Int) (w : World) : Calls Try.prog 62 #[.bool false, .int .i64 n] w fun e w' => e = errP n ∧ w = w' := by
  go_enter Try.func62, Try.ntmps62
  go_wp2
  exact ⟨rfl, rfl, rfl⟩
@[go_sem] theorem iface_not_nil (u : TypeId) (v : Value) (w : World) : (binOp .neq 20 (.iface u v) .nilIface).run Try.prog w = .ok (.bool true) w := by kernel_rfl
@[go_sem] theorem nil_is_nil (w : World) : (binOp .neq 20 .nilIface .nilIface).run Try.prog w = .ok (.bool false) w := by kernel_rfl
@[go_sem] theorem is_errno (v : Value) (w : World) : (Instr.typeAssert (.iface 28 v) 20 28 true).run Try.prog w = .ok (.tuple #[v, .bool true]) w := by
  simp [Instr.typeAssert, run_underlying Try.underlying28]
set_option maxHeartbeats 2000000 in
theorem catch_panicking (p : Addr) (n x : Int) (older : List PanicEntry) (w : World) (hc : w.cell? p = some (.int .i64 x)) (hz : w.frozen? p = false) :
    CallsD Try.prog 98 #[.pointer (some p)] (.panicking ({ v := .iface 28 (.int .i64 n), recovered := false } :: older)) w fun e u' w' =>
      e = .returned (.tuple #[]) ∧ u' = .panicking ({ v := .iface 28 (.int .i64 n), recovered := true } :: older) ∧ w' = w.setCell p (.int .i64 n) := by
  refine callsD_of_wpS Try.func98 rfl fun c₀ cs hu => ?_
  apply wpS_seq
  apply wpS_region
  simp only [Try.ntmps98, List.size_toArray, List.length_cons, List.length_nil, Nat.reduceAdd, Nat.reduceSub, Array.replicate_succ, Array.replicate_zero, List.push_toArray, List.append_toArray, List.nil_append, List.cons_append]
  simp [wpOpsS, go_sem, recoverD, hu, Exit.thenS]
  refine wpS_seq (wpS_of_wp ?_)
  go_wp2
  simp only [Exit.thenS]
  refine wpS_cond (t := true) rfl ?_
  simp only [if_true]
  refine wpS_of_wp ?_
  go_wp2
  simp [bodyPostS, results, Try.results98, go_sem]
set_option maxHeartbeats 2000000 in
theorem catch_idle (p : Addr) (w : World) :
    CallsD Try.prog 98 #[.pointer (some p)] .returning w fun e u' w' => e = .returned (.tuple #[]) ∧ u' = .returning ∧ w' = w := by
  refine callsD_of_wpS Try.func98 rfl fun c₀ cs hu => ?_
  apply wpS_seq
  apply wpS_region
  simp only [Try.ntmps98, List.size_toArray, List.length_cons, List.length_nil, Nat.reduceAdd, Nat.reduceSub, Array.replicate_succ, Array.replicate_zero, List.push_toArray, List.append_toArray, List.nil_append, List.cons_append]
  simp [wpOpsS, go_sem, recoverD, hu, Exit.thenS]
  apply wpS_of_wp
  go_wp2
  cases c₀
  simp_all [bodyPostS, results, Try.results98]
/-- tries: what is done returns, or panics with an error; the error is handed back. -/
theorem tries_calls (g : Nat) (cap : Array Value) (w : World) (R : Int → World → Prop)
    (hinv : ∀ args w, (callFunc g args).run Try.prog w = .ok (.enter g args) w)
    (h : Calls Try.prog g cap (w.alloc (.cells #[.int .i64 0] 28)) fun e w' => (e = .returned (.tuple #[]) ∧ R 0 w') ∨ ∃ n, e = errP n ∧ R n w')
    (hR : ∀ n w', R n w' → w'.heap[w.heap.size]? = some (.cells #[.int .i64 0] 28 (0, 0))) :
    Calls Try.prog 59 #[.func (.func g) #[] cap] w fun e w' => ∃ n w1, R n w1 ∧ e = .returned (.int .i64 n) ∧ w' = w1.setCell ⟨w.heap.size, 0, none⟩ (.int .i64 n) := by
  have hmf : ∀ (fn : Fn) (first cap : Array Value) (w : World), (Instr.makeFunc fn first cap).run Try.prog w = .ok (.func fn first cap) w := fun _ _ _ _ => rfl
  go_enter_defers Try.func59, Try.ntmps59
  have HR := Lib.hid hR
  clear hR
  go_wp2_with (go_at_fn g; refine h.mono ?_; rintro e w' (⟨rfl, hr⟩ | ⟨n, rfl, hr⟩); (have hc : w'.cell? ⟨w.heap.size, 0, none⟩ = some (.int .i64 0) := cell_of_heap (HR.out _ w' hr)); (have hf : w'.frozen? ⟨w.heap.size, 0, none⟩ = false := free_of_heap (HR.out _ w' hr)))
  · refine leaves_cons (f := 98) (args := #[.pointer (some ⟨w.heap.size, 0, none⟩)]) (by simp) (by simp [go_sem]) ?_
    refine (catch_idle ⟨w.heap.size, 0, none⟩ _).mono ?_
    rintro e u' w'' ⟨rfl, rfl, rfl⟩
    have hc2 := World.cell?_setCell_same' w' ⟨w.heap.size, 0, none⟩ (.int .i64 0) (by rw [hc]; rfl)
    simp [Leaves, settle, results, Try.results59, go_sem, hc2]
    exact ⟨_, _, hr, rfl, rfl⟩
  · refine leaves_cons (f := 98) (args := #[.pointer (some ⟨w.heap.size, 0, none⟩)]) (by simp) (by simp [go_sem]) ?_
    have hc : w'.cell? ⟨w.heap.size, 0, none⟩ = some (.int .i64 0) := cell_of_heap (HR.out _ w' hr)
    have hf : w'.frozen? ⟨w.heap.size, 0, none⟩ = false := free_of_heap (HR.out _ w' hr)
    refine (catch_panicking ⟨w.heap.size, 0, none⟩ n 0 [] _ hc hf).mono ?_
    rintro e u' w'' ⟨rfl, rfl, rfl⟩
    have hc2 := World.cell?_setCell_same' w' ⟨w.heap.size, 0, none⟩ (.int .i64 n) (by rw [hc]; rfl)
    simp [Leaves, settle, results, Try.results59, go_sem, hc2]
    exact ⟨_, _, hr, rfl, rfl⟩
end Go.Proofs.Ytnhmhnejglpijaa
