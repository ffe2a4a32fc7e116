/- journal: tries of what is found; First: walks. -/
import Derived.Test.YtnhmhnejglpijaaQh
namespace Go.Proofs.Ytnhmhnejglpijaa
open Go.RowKit
set_option maxRecDepth 100000
set_option linter.unusedSimpArgs false
set_option linter.unusedVariables false
/-- a block of two cells, written over, and the error's block behind it -/
theorem two_set {w : World} {a : Nat} {x y S z : Value} {s n : Value} (h0 : w.heap[a]? = some (.cells #[x, y] 121 (0, 0))) (h1 : w.heap[a + 1]? = some (.cells #[z] 28 (0, 0))) :
    ((w.setCell ⟨a, 0, none⟩ S).setCell ⟨a, 1, none⟩ s).heap[a]? = some (.cells #[S, s] 121 (0, 0)) ∧ ((w.setCell ⟨a, 0, none⟩ S).setCell ⟨a, 1, none⟩ s).heap[a + 1]? = some (.cells #[z] 28 (0, 0)) ∧
    (((w.setCell ⟨a, 0, none⟩ S).setCell ⟨a, 1, none⟩ s).setCell ⟨a + 1, 0, none⟩ n).heap[a]? = some (.cells #[S, s] 121 (0, 0)) ∧ (((w.setCell ⟨a, 0, none⟩ S).setCell ⟨a, 1, none⟩ s).setCell ⟨a + 1, 0, none⟩ n).heap[a + 1]? = some (.cells #[n] 28 (0, 0)) ∧
    (w.setCell ⟨a, 0, none⟩ S).heap[a]? = some (.cells #[S, y] 121 (0, 0)) := by
  have g1 := heap_setCell_same w a 0 S _ _ _ h0
  have g2 := heap_setCell_same _ a 1 s _ _ _ g1
  have k1 := heap_set_other1 (g := a) (k := 0) (v := S) h1 (by omega)
  have k2 := heap_set_other1 (g := a) (k := 1) (v := s) k1 (by omega)
  have k3 := heap_setCell_same _ (a + 1) 0 n _ _ _ k2
  have g3 := heap_set_other1 (g := a + 1) (k := 0) (v := n) g2 (by omega)
  exact ⟨by simpa using g2, k2, by simpa using g3, by simpa using k3, by simpa using g1⟩
set_option maxHeartbeats 2000000 in
theorem catch116_panicking (a : Nat) (n x : Int) (older : List PanicEntry) (w : World) (h0 : w.heap[a]? = some (.cells #[.slice none 0 0, .int .i64 0] 121 (0, 0))) (h1 : w.heap[a + 1]? = some (.cells #[.int .i64 x] 28 (0, 0))) :
    CallsD Try.prog 116 #[.pointer (some ⟨a, 0, none⟩), .pointer (some ⟨a + 1, 0, none⟩)] (.panicking ({ v := .iface 28 (.int .i64 n), recovered := false } :: older)) w fun e u' w' =>
      e = .returned (.tuple #[]) ∧ u' = .panicking ({ v := .iface 28 (.int .i64 n), recovered := true } :: older) ∧ w' = (((w.alloc (.cells #[.slice none 0 0, .int .i64 0] 121)).setCell ⟨a, 0, none⟩ (.slice none 0 0)).setCell ⟨a, 1, none⟩ (.int .i64 0)).setCell ⟨a + 1, 0, none⟩ (.int .i64 n) := by
  have j0 := new_next w (.cells #[.slice none 0 0, .int .i64 0] 121) h0
  have j1 := new_next w (.cells #[.slice none 0 0, .int .i64 0] 121) h1
  obtain ⟨k1, k2, k3, k4, k5⟩ := two_set (S := .slice none 0 0) (s := .int .i64 0) (n := .int .i64 n) j0 j1
  have c0 : (w.alloc (.cells #[.slice none 0 0, .int .i64 0] 121)).cell? ⟨a, 0, none⟩ = some (.slice none 0 0) := cell_of_heap j0
  have f0 : (w.alloc (.cells #[.slice none 0 0, .int .i64 0] 121)).frozen? ⟨a, 0, none⟩ = false := free_of_heap j0
  have c1 : ((w.alloc (.cells #[.slice none 0 0, .int .i64 0] 121)).setCell ⟨a, 0, none⟩ (.slice none 0 0)).cell? ⟨a, 1, none⟩ = some (.int .i64 0) := cell_of_heap k5
  have f1 : ((w.alloc (.cells #[.slice none 0 0, .int .i64 0] 121)).setCell ⟨a, 0, none⟩ (.slice none 0 0)).frozen? ⟨a, 1, none⟩ = false := free_of_heap k5
  have c1' : (w.alloc (.cells #[.slice none 0 0, .int .i64 0] 121)).cell? ⟨a, 1, none⟩ = some (.int .i64 0) := cell_of_heap j0
  have f1' : (w.alloc (.cells #[.slice none 0 0, .int .i64 0] 121)).frozen? ⟨a, 1, none⟩ = false := free_of_heap j0
  have c2 : (((w.alloc (.cells #[.slice none 0 0, .int .i64 0] 121)).setCell ⟨a, 0, none⟩ (.slice none 0 0)).setCell ⟨a, 1, none⟩ (.int .i64 0)).cell? ⟨a + 1, 0, none⟩ = some (.int .i64 x) := cell_of_heap k2
  have f2 : (((w.alloc (.cells #[.slice none 0 0, .int .i64 0] 121)).setCell ⟨a, 0, none⟩ (.slice none 0 0)).setCell ⟨a, 1, none⟩ (.int .i64 0)).frozen? ⟨a + 1, 0, none⟩ = false := free_of_heap k2
  clear h0 h1 j0 j1 k1 k2 k3 k4 k5
  refine callsD_of_wpS Try.func116 rfl fun c₀ cs hu => ?_
  apply wpS_seq
  apply wpS_region
  simp only [Try.ntmps116, List.size_toArray, List.length_cons, List.length_nil, Nat.reduceAdd, Nat.reduceSub, Array.replicate_succ, Array.replicate_zero, List.push_toArray, List.append_toArray, List.nil_append, List.cons_append]
  simp [wpOpsS, go_sem, recoverD, hu, Exit.thenS]
  refine wpS_seq (wpS_of_wp ?_)
  go_wp2
  simp only [Exit.thenS]
  refine wpS_cond (t := true) rfl ?_
  simp only [if_true]
  refine wpS_of_wp ?_
  go_wp2
  simp [bodyPostS, results, Try.results116, go_sem]
set_option maxHeartbeats 2000000 in
theorem catch116_idle (p q : Addr) (w : World) :
    CallsD Try.prog 116 #[.pointer (some p), .pointer (some q)] .returning w fun e u' w' => e = .returned (.tuple #[]) ∧ u' = .returning ∧ w' = w := by
  refine callsD_of_wpS Try.func116 rfl fun c₀ cs hu => ?_
  apply wpS_seq
  apply wpS_region
  simp only [Try.ntmps116, List.size_toArray, List.length_cons, List.length_nil, Nat.reduceAdd, Nat.reduceSub, Array.replicate_succ, Array.replicate_zero, List.push_toArray, List.append_toArray, List.nil_append, List.cons_append]
  simp [wpOpsS, go_sem, recoverD, hu, Exit.thenS]
  apply wpS_of_wp
  go_wp2
  cases c₀
  simp_all [bodyPostS, results, Try.results116]
def sizeO (r : Out (List B8)) : Int := match r with
  | .ok h => (h.length : Int) + 8
  | .error _ => 0
def TriedE (w : World) (r : Out (List B8)) (e : Ending) (w' : World) : Prop :=
  Below w.heap.size w w' ∧ ∃ A c, e = .returned (.tuple #[.agg #[.slice A (r.get []).length c, .int .i64 (sizeO r)], .int .i64 r.err]) ∧ Bt w' (.slice A (r.get []).length c) (r.get [])
set_option maxHeartbeats 2000000 in
theorem tries90_calls (g : Nat) (cap : Array Value) (r : Out (List B8)) (w : World) (hinv : ∀ args w, (callFunc g args).run Try.prog w = .ok (.enter g args) w)
    (h : ∀ X, X = (w.alloc (.cells #[.slice none 0 0, .int .i64 0] 121)).alloc (.cells #[.int .i64 0] 28) → Calls Try.prog g cap X (FoundE X r)) :
    Calls Try.prog 90 #[.func (.func g) #[] cap] w (TriedE w r) := by
  have hmf : ∀ (fn : Fn) (first cap : Array Value) (w : World), (Instr.makeFunc fn first cap).run Try.prog w = .ok (.func fn first cap) w := fun _ _ _ _ => rfl
  have HB := Lib.hid (below_al (below_al (Below.refl _ w) (.cells #[.slice none 0 0, .int .i64 0] 121)) (.cells #[.int .i64 0] 28))
  have H0 := Lib.hid (new_next _ (.cells #[.int .i64 0] 28) (new_here w (.cells #[.slice none 0 0, .int .i64 0] 121)))
  have H1 : Hid (((w.alloc (.cells #[.slice none 0 0, .int .i64 0] 121)).alloc (.cells #[.int .i64 0] 28)).heap[w.heap.size + 1]? = some (.cells #[.int .i64 0] 28 (0, 0))) := Lib.hid (by have := new_here (w.alloc (.cells #[.slice none 0 0, .int .i64 0] 121)) (.cells #[.int .i64 0] 28); rwa [World.size_alloc] at this)
  have hh := h _ rfl
  unfold FoundE at hh
  have hz : ((w.alloc (.cells #[.slice none 0 0, .int .i64 0] 121)).alloc (.cells #[.int .i64 0] 28)).heap.size = w.heap.size + 1 + 1 := by simp
  rw [hz] at hh
  clear h hz
  cases r with
  | ok x =>
    simp only at hh
    go_enter_defers Try.func90, Try.ntmps90
    go_wp2_with (go_at_fn g; refine hh.mono ?_; rintro e w' ⟨hb, A, c, rfl, hr⟩; (have HB' := Lib.hid hb); (have HO := Lib.hid hr); (have k0 := (hb.block w.heap.size (by omega)).trans H0.out); (have k1 := (hb.block (w.heap.size + 1) (by omega)).trans H1.out); (obtain ⟨m1, m2, m3, m4, m5⟩ := two_set (S := .slice A x.length c) (s := .int .i64 ((x.length : Int) + 8)) (n := .int .i64 0) k0 k1); (have c0 : w'.cell? ⟨w.heap.size, 0, none⟩ = some (.slice none 0 0) := cell_of_heap k0); (have f0 : w'.frozen? ⟨w.heap.size, 0, none⟩ = false := free_of_heap k0); (have c1 : (w'.setCell ⟨w.heap.size, 0, none⟩ (.slice A x.length c)).cell? ⟨w.heap.size, 1, none⟩ = some (.int .i64 0) := cell_of_heap m5); (have f1 : (w'.setCell ⟨w.heap.size, 0, none⟩ (.slice A x.length c)).frozen? ⟨w.heap.size, 1, none⟩ = false := free_of_heap m5); (have c1' : w'.cell? ⟨w.heap.size, 1, none⟩ = some (.int .i64 0) := cell_of_heap k0); (have f1' : w'.frozen? ⟨w.heap.size, 1, none⟩ = false := free_of_heap k0); (have c2 : ((w'.setCell ⟨w.heap.size, 0, none⟩ (.slice A x.length c)).setCell ⟨w.heap.size, 1, none⟩ (.int .i64 ((x.length : Int) + 8))).cell? ⟨w.heap.size + 1, 0, none⟩ = some (.int .i64 0) := cell_of_heap m2); (have f2 : ((w'.setCell ⟨w.heap.size, 0, none⟩ (.slice A x.length c)).setCell ⟨w.heap.size, 1, none⟩ (.int .i64 ((x.length : Int) + 8))).frozen? ⟨w.heap.size + 1, 0, none⟩ = false := free_of_heap m2); (have K0 := Lib.hid k0); (have M1 := Lib.hid m1); (have M2 := Lib.hid m2); (have M3 := Lib.hid m3); (have M4 := Lib.hid m4); (have M5 := Lib.hid m5); (clear k0 k1 m1 m2 m3 m4 m5 hb hr))
    refine leaves_cons (f := 116) (args := #[.pointer (some ⟨w.heap.size, 0, none⟩), .pointer (some ⟨w.heap.size + 1, 0, none⟩)]) (by simp) (by simp [go_sem]) ?_
    refine (catch116_idle ⟨w.heap.size, 0, none⟩ ⟨w.heap.size + 1, 0, none⟩ _).mono ?_
    rintro e u' w'' ⟨rfl, rfl, rfl⟩
    have e0 : (((w'.setCell ⟨w.heap.size, 0, none⟩ (.slice A x.length c)).setCell ⟨w.heap.size, 1, none⟩ (.int .i64 ((x.length : Int) + 8))).setCell ⟨w.heap.size + 1, 0, none⟩ (.int .i64 0)).cell? ⟨w.heap.size, 0, none⟩ = some (.slice A x.length c) := cell_of_heap M3.out
    have e1 : (((w'.setCell ⟨w.heap.size, 0, none⟩ (.slice A x.length c)).setCell ⟨w.heap.size, 1, none⟩ (.int .i64 ((x.length : Int) + 8))).setCell ⟨w.heap.size + 1, 0, none⟩ (.int .i64 0)).cell? ⟨w.heap.size, 1, none⟩ = some (.int .i64 ((x.length : Int) + 8)) := cell_of_heap M3.out
    have e2 : (((w'.setCell ⟨w.heap.size, 0, none⟩ (.slice A x.length c)).setCell ⟨w.heap.size, 1, none⟩ (.int .i64 ((x.length : Int) + 8))).setCell ⟨w.heap.size + 1, 0, none⟩ (.int .i64 0)).cell? ⟨w.heap.size + 1, 0, none⟩ = some (.int .i64 0) := cell_of_heap M4.out
    simp [Leaves, settle, results, Try.results90, go_sem, e0, e1, e2]
    exact ⟨(((HB.out.trans (HB'.out.mono (by omega))).setCell (p := ⟨w.heap.size, 0, none⟩) (Nat.le_refl _) _).setCell (p := ⟨w.heap.size, 1, none⟩) (Nat.le_refl _) _).setCell (p := ⟨w.heap.size + 1, 0, none⟩) (Nat.le_succ _) _, A, c, rfl, ((HO.out.set_far K0.out (by decide)).set_far M5.out (by decide)).set_far M2.out (by decide)⟩
  | error n =>
    simp only at hh
    go_enter_defers Try.func90, Try.ntmps90
    go_wp2_with (go_at_fn g; refine hh.mono ?_; rintro e w' ⟨hb, rfl⟩)
    refine leaves_cons (f := 116) (args := #[.pointer (some ⟨w.heap.size, 0, none⟩), .pointer (some ⟨w.heap.size + 1, 0, none⟩)]) (by simp) (by simp [go_sem]) ?_
    have k0 := (hb.block w.heap.size (by omega)).trans H0.out
    have k1 := (hb.block (w.heap.size + 1) (by omega)).trans H1.out
    refine (catch116_panicking w.heap.size n 0 [] _ k0 k1).mono ?_
    rintro e u' w'' ⟨rfl, rfl, rfl⟩
    obtain ⟨m1, m2, m3, m4, m5⟩ := two_set (S := .slice none 0 0) (s := .int .i64 0) (n := .int .i64 n) (new_next w' (.cells #[.slice none 0 0, .int .i64 0] 121) k0) (new_next w' (.cells #[.slice none 0 0, .int .i64 0] 121) k1)
    have e0 : ((((w'.alloc (.cells #[.slice none 0 0, .int .i64 0] 121)).setCell ⟨w.heap.size, 0, none⟩ (.slice none 0 0)).setCell ⟨w.heap.size, 1, none⟩ (.int .i64 0)).setCell ⟨w.heap.size + 1, 0, none⟩ (.int .i64 n)).cell? ⟨w.heap.size, 0, none⟩ = some (.slice none 0 0) := cell_of_heap m3
    have e1 : ((((w'.alloc (.cells #[.slice none 0 0, .int .i64 0] 121)).setCell ⟨w.heap.size, 0, none⟩ (.slice none 0 0)).setCell ⟨w.heap.size, 1, none⟩ (.int .i64 0)).setCell ⟨w.heap.size + 1, 0, none⟩ (.int .i64 n)).cell? ⟨w.heap.size, 1, none⟩ = some (.int .i64 0) := cell_of_heap m3
    have e2 : ((((w'.alloc (.cells #[.slice none 0 0, .int .i64 0] 121)).setCell ⟨w.heap.size, 0, none⟩ (.slice none 0 0)).setCell ⟨w.heap.size, 1, none⟩ (.int .i64 0)).setCell ⟨w.heap.size + 1, 0, none⟩ (.int .i64 n)).cell? ⟨w.heap.size + 1, 0, none⟩ = some (.int .i64 n) := cell_of_heap m4
    simp [Leaves, settle, results, Try.results90, go_sem, e0, e1, e2]
    exact ⟨((((HB.out.trans (hb.mono (by omega))).alloc (by have := (HB.out.trans (hb.mono (by omega))).size; exact this) _).setCell (p := ⟨w.heap.size, 0, none⟩) (Nat.le_refl _) _).setCell (p := ⟨w.heap.size, 1, none⟩) (Nat.le_refl _) _).setCell (p := ⟨w.heap.size + 1, 0, none⟩) (Nat.le_succ _) _, none, 0, rfl, bt_nil _⟩
end Go.Proofs.Ytnhmhnejglpijaa
