/- octet and journal: tries and need, in their instances. -/
import Derived.Test.YtnhmhnejglpijaaPb
namespace Go.Proofs.Ytnhmhnejglpijaa
open Go.RowKit
set_option maxRecDepth 100000
set_option linter.unusedSimpArgs false
set_option linter.unusedVariables false
/-- what is left of what was done: something, or an error -/
abbrev Out (α : Type) := Except Int α
def Out.err {α : Type} : Out α → Int
  | .ok _ => 0
  | .error n => n
def Out.get {α : Type} (z : α) : Out α → α
  | .ok x => x
  | .error _ => z
theorem heap_set_other1 {w : World} {b g k : Nat} {o : Obj} {v : Value} (h : w.heap[b]? = some o) (hne : b ≠ g) : (w.setCell ⟨g, k, none⟩ v).heap[b]? = some o :=
  ((grownBy_set w g k v).block b (lt_of_heap h) (fun e => hne (by cases e; rfl))).trans h
theorem need84_ok (n : Int) (w : World) : Calls Try.prog 84 #[.bool true, .int .i64 n] w fun e w' => e = .returned (.tuple #[]) ∧ w = w' := by
  go_enter Try.func84, Try.ntmps84
  go_wp2
  go_end0
  exact ⟨rfl, rfl⟩
theorem need84_no (n : Int) (w : World) : Calls Try.prog 84 #[.bool false, .int .i64 n] w fun e w' => e = errP n ∧ w = w' := by
  go_enter Try.func84, Try.ntmps84
  go_wp2
  exact ⟨rfl, rfl, rfl⟩
theorem need130_ok (n : Int) (w : World) : Calls Try.prog 130 #[.bool true, .int .i64 n] w fun e w' => e = .returned (.tuple #[]) ∧ w = w' := by
  go_enter Try.func130, Try.ntmps130
  go_wp2
  go_end0
  exact ⟨rfl, rfl⟩
theorem need130_no (n : Int) (w : World) : Calls Try.prog 130 #[.bool false, .int .i64 n] w fun e w' => e = errP n ∧ w = w' := by
  go_enter Try.func130, Try.ntmps130
  go_wp2
  exact ⟨rfl, rfl, rfl⟩
set_option maxHeartbeats 2000000 in
theorem catch110_panicking (a : Nat) (x0 : Value) (n x : Int) (older : List PanicEntry) (w : World) (h0 : w.heap[a]? = some (.cells #[x0] 34 (0, 0))) (h1 : w.heap[a + 1]? = some (.cells #[.int .i64 x] 28 (0, 0))) :
    CallsD Try.prog 110 #[.pointer (some ⟨a, 0, none⟩), .pointer (some ⟨a + 1, 0, none⟩)] (.panicking ({ v := .iface 28 (.int .i64 n), recovered := false } :: older)) w fun e u' w' =>
      e = .returned (.tuple #[]) ∧ u' = .panicking ({ v := .iface 28 (.int .i64 n), recovered := true } :: older) ∧ w' = (w.setCell ⟨a, 0, none⟩ (.slice none 0 0)).setCell ⟨a + 1, 0, none⟩ (.int .i64 n) := by
  have c0 : w.cell? ⟨a, 0, none⟩ = some x0 := cell_of_heap h0
  have f0 : w.frozen? ⟨a, 0, none⟩ = false := free_of_heap h0
  have h1' := heap_set_other1 (g := a) (k := 0) (v := (.slice none 0 0)) h1 (by omega)
  have c1 : (w.setCell ⟨a, 0, none⟩ (.slice none 0 0)).cell? ⟨a + 1, 0, none⟩ = some (.int .i64 x) := cell_of_heap h1'
  have f1 : (w.setCell ⟨a, 0, none⟩ (.slice none 0 0)).frozen? ⟨a + 1, 0, none⟩ = false := free_of_heap h1'
  clear h0 h1 h1'
  refine callsD_of_wpS Try.func110 rfl fun c₀ cs hu => ?_
  apply wpS_seq
  apply wpS_region
  simp only [Try.ntmps110, List.size_toArray, List.length_cons, List.length_nil, Nat.reduceAdd, Nat.reduceSub, Array.replicate_succ, Array.replicate_zero, List.push_toArray, List.append_toArray, List.nil_append, List.cons_append]
  simp [wpOpsS, go_sem, recoverD, hu, Exit.thenS]
  refine wpS_seq (wpS_of_wp ?_)
  go_wp2
  simp only [Exit.thenS]
  refine wpS_cond (t := true) rfl ?_
  simp only [if_true]
  refine wpS_of_wp ?_
  go_wp2
  simp [bodyPostS, results, Try.results110, go_sem]
set_option maxHeartbeats 2000000 in
theorem catch110_idle (p q : Addr) (w : World) :
    CallsD Try.prog 110 #[.pointer (some p), .pointer (some q)] .returning w fun e u' w' => e = .returned (.tuple #[]) ∧ u' = .returning ∧ w' = w := by
  refine callsD_of_wpS Try.func110 rfl fun c₀ cs hu => ?_
  apply wpS_seq
  apply wpS_region
  simp only [Try.ntmps110, List.size_toArray, List.length_cons, List.length_nil, Nat.reduceAdd, Nat.reduceSub, Array.replicate_succ, Array.replicate_zero, List.push_toArray, List.append_toArray, List.nil_append, List.cons_append]
  simp [wpOpsS, go_sem, recoverD, hu, Exit.thenS]
  apply wpS_of_wp
  go_wp2
  cases c₀
  simp_all [bodyPostS, results, Try.results110]
set_option maxHeartbeats 2000000 in
theorem tries76_calls (g : Nat) (cap : Array Value) (r : Out (List B8)) (w : World)
    (hinv : ∀ args w, (callFunc g args).run Try.prog w = .ok (.enter g args) w)
    (h : Calls Try.prog g cap ((w.alloc (.cells #[(.slice none 0 0)] 34)).alloc (.cells #[.int .i64 0] 28)) fun e w' => Below (w.heap.size + 1 + 1) ((w.alloc (.cells #[(.slice none 0 0)] 34)).alloc (.cells #[.int .i64 0] 28)) w' ∧
      match r with
      | .ok x => ∃ v, e = .returned v ∧ Own8 w' (w.heap.size + 1 + 1) v x
      | .error n => e = errP n) :
    Calls Try.prog 76 #[.func (.func g) #[] cap] w fun e w' => Below w.heap.size w w' ∧ ∃ v, e = .returned (.tuple #[v, .int .i64 r.err]) ∧ Own8 w' w.heap.size v (r.get []) := by
  have hmf : ∀ (fn : Fn) (first cap : Array Value) (w : World), (Instr.makeFunc fn first cap).run Try.prog w = .ok (.func fn first cap) w := fun _ _ _ _ => rfl
  have HB := Lib.hid (below_al (below_al (Below.refl _ w) (.cells #[(.slice none 0 0)] 34)) (.cells #[.int .i64 0] 28))
  have H0 := Lib.hid (new_next _ (.cells #[.int .i64 0] 28) (new_here w (.cells #[(.slice none 0 0)] 34)))
  have H1 : Hid (((w.alloc (.cells #[(.slice none 0 0)] 34)).alloc (.cells #[.int .i64 0] 28)).heap[w.heap.size + 1]? = some (.cells #[.int .i64 0] 28 (0, 0))) := Lib.hid (by have := new_here (w.alloc (.cells #[(.slice none 0 0)] 34)) (.cells #[.int .i64 0] 28); rwa [World.size_alloc] at this)
  cases r with
  | ok x =>
    simp only at h
    go_enter_defers Try.func76, Try.ntmps76
    go_wp2_with (go_at_fn g; refine h.mono ?_; rintro e w' ⟨hb, v, rfl, hr⟩; (obtain ⟨A, c0_, c1_, rfl⟩ : ∃ A c0_ c1_, v = .slice A c0_ c1_ := by obtain ⟨A, c, e⟩ := own8_shape hr; exact ⟨A, _, c, e⟩); (have HB' := Lib.hid hb); (have HO := Lib.hid hr); (have k0 := (hb.block w.heap.size (by omega)).trans H0.out); (have k1 := (hb.block (w.heap.size + 1) (by omega)).trans H1.out); (have c0 : w'.cell? ⟨w.heap.size, 0, none⟩ = some (.slice none 0 0) := cell_of_heap k0); (have f0 : w'.frozen? ⟨w.heap.size, 0, none⟩ = false := free_of_heap k0); (have k1' := heap_set_other1 (g := w.heap.size) (k := 0) (v := (.slice A c0_ c1_)) k1 (by omega)); (have c1 : (w'.setCell ⟨w.heap.size, 0, none⟩ (.slice A c0_ c1_)).cell? ⟨w.heap.size + 1, 0, none⟩ = some (.int .i64 0) := cell_of_heap k1'); (have f1 : (w'.setCell ⟨w.heap.size, 0, none⟩ (.slice A c0_ c1_)).frozen? ⟨w.heap.size + 1, 0, none⟩ = false := free_of_heap k1'); (have K0 := Lib.hid k0); (have K1 := Lib.hid k1'); (clear k0 k1 k1' hb hr))
    refine leaves_cons (f := 110) (args := #[.pointer (some ⟨w.heap.size, 0, none⟩), .pointer (some ⟨w.heap.size + 1, 0, none⟩)]) (by simp) (by simp [go_sem]) ?_
    refine (catch110_idle ⟨w.heap.size, 0, none⟩ ⟨w.heap.size + 1, 0, none⟩ _).mono ?_
    rintro e u' w'' ⟨rfl, rfl, rfl⟩
    have k0 := heap_setCell_same _ w.heap.size 0 (.slice A c0_ c1_) _ _ _ K0.out
    have k1 := heap_setCell_same _ (w.heap.size + 1) 0 (.int .i64 0) _ _ _ K1.out
    have k0' := heap_set_other1 (g := w.heap.size + 1) (k := 0) (v := .int .i64 0) k0 (by omega)
    have e0 : ((w'.setCell ⟨w.heap.size, 0, none⟩ (.slice A c0_ c1_)).setCell ⟨w.heap.size + 1, 0, none⟩ (.int .i64 0)).cell? ⟨w.heap.size, 0, none⟩ = some (.slice A c0_ c1_) := cell_of_heap k0'
    have e1 : ((w'.setCell ⟨w.heap.size, 0, none⟩ (.slice A c0_ c1_)).setCell ⟨w.heap.size + 1, 0, none⟩ (.int .i64 0)).cell? ⟨w.heap.size + 1, 0, none⟩ = some (.int .i64 0) := cell_of_heap k1
    simp [Leaves, settle, results, Try.results76, go_sem, e0, e1]
    refine ⟨((HB.out.trans (HB'.out.mono (by omega))).setCell (p := ⟨w.heap.size, 0, none⟩) (Nat.le_refl _) _).setCell (p := ⟨w.heap.size + 1, 0, none⟩) (Nat.le_succ _) _, ?_⟩
    exact ⟨_, ⟨rfl, rfl⟩, ((HO.out.keptN (grownBy_set _ _ _ _) (noBytes_of K0.out (by decide))).keptN (grownBy_set _ _ _ _) (noBytes_of K1.out (by decide))).base (by omega)⟩
  | error n =>
    simp only at h
    go_enter_defers Try.func76, Try.ntmps76
    go_wp2_with (go_at_fn g; refine h.mono ?_; rintro e w' ⟨hb, rfl⟩)
    refine leaves_cons (f := 110) (args := #[.pointer (some ⟨w.heap.size, 0, none⟩), .pointer (some ⟨w.heap.size + 1, 0, none⟩)]) (by simp) (by simp [go_sem]) ?_
    have k0 := (hb.block w.heap.size (by omega)).trans H0.out
    have k1 := (hb.block (w.heap.size + 1) (by omega)).trans H1.out
    refine (catch110_panicking w.heap.size _ n 0 [] _ k0 k1).mono ?_
    rintro e u' w'' ⟨rfl, rfl, rfl⟩
    have k1' := heap_set_other1 (g := w.heap.size) (k := 0) (v := (.slice none 0 0)) k1 (by omega)
    have j0 := heap_setCell_same _ w.heap.size 0 (.slice none 0 0) _ _ _ k0
    have j1 := heap_setCell_same _ (w.heap.size + 1) 0 (.int .i64 n) _ _ _ k1'
    have j0' := heap_set_other1 (g := w.heap.size + 1) (k := 0) (v := .int .i64 n) j0 (by omega)
    have e0 : ((w'.setCell ⟨w.heap.size, 0, none⟩ (.slice none 0 0)).setCell ⟨w.heap.size + 1, 0, none⟩ (.int .i64 n)).cell? ⟨w.heap.size, 0, none⟩ = some (.slice none 0 0) := cell_of_heap j0'
    have e1 : ((w'.setCell ⟨w.heap.size, 0, none⟩ (.slice none 0 0)).setCell ⟨w.heap.size + 1, 0, none⟩ (.int .i64 n)).cell? ⟨w.heap.size + 1, 0, none⟩ = some (.int .i64 n) := cell_of_heap j1
    simp [Leaves, settle, results, Try.results76, go_sem, e0, e1]
    refine ⟨((HB.out.trans (hb.mono (by omega))).setCell (p := ⟨w.heap.size, 0, none⟩) (Nat.le_refl _) _).setCell (p := ⟨w.heap.size + 1, 0, none⟩) (Nat.le_succ _) _, ?_⟩
    exact ⟨_, ⟨rfl, rfl⟩, Own8.nil _ _⟩
set_option maxHeartbeats 2000000 in
theorem catch137_panicking (a : Nat) (x0 : Value) (n x : Int) (older : List PanicEntry) (w : World) (h0 : w.heap[a]? = some (.cells #[x0] 34 (0, 0))) (h1 : w.heap[a + 1]? = some (.cells #[.int .i64 x] 28 (0, 0))) :
    CallsD Try.prog 137 #[.pointer (some ⟨a, 0, none⟩), .pointer (some ⟨a + 1, 0, none⟩)] (.panicking ({ v := .iface 28 (.int .i64 n), recovered := false } :: older)) w fun e u' w' =>
      e = .returned (.tuple #[]) ∧ u' = .panicking ({ v := .iface 28 (.int .i64 n), recovered := true } :: older) ∧ w' = (w.setCell ⟨a, 0, none⟩ (.slice none 0 0)).setCell ⟨a + 1, 0, none⟩ (.int .i64 n) := by
  have c0 : w.cell? ⟨a, 0, none⟩ = some x0 := cell_of_heap h0
  have f0 : w.frozen? ⟨a, 0, none⟩ = false := free_of_heap h0
  have h1' := heap_set_other1 (g := a) (k := 0) (v := (.slice none 0 0)) h1 (by omega)
  have c1 : (w.setCell ⟨a, 0, none⟩ (.slice none 0 0)).cell? ⟨a + 1, 0, none⟩ = some (.int .i64 x) := cell_of_heap h1'
  have f1 : (w.setCell ⟨a, 0, none⟩ (.slice none 0 0)).frozen? ⟨a + 1, 0, none⟩ = false := free_of_heap h1'
  clear h0 h1 h1'
  refine callsD_of_wpS Try.func137 rfl fun c₀ cs hu => ?_
  apply wpS_seq
  apply wpS_region
  simp only [Try.ntmps137, List.size_toArray, List.length_cons, List.length_nil, Nat.reduceAdd, Nat.reduceSub, Array.replicate_succ, Array.replicate_zero, List.push_toArray, List.append_toArray, List.nil_append, List.cons_append]
  simp [wpOpsS, go_sem, recoverD, hu, Exit.thenS]
  refine wpS_seq (wpS_of_wp ?_)
  go_wp2
  simp only [Exit.thenS]
  refine wpS_cond (t := true) rfl ?_
  simp only [if_true]
  refine wpS_of_wp ?_
  go_wp2
  simp [bodyPostS, results, Try.results137, go_sem]
set_option maxHeartbeats 2000000 in
theorem catch137_idle (p q : Addr) (w : World) :
    CallsD Try.prog 137 #[.pointer (some p), .pointer (some q)] .returning w fun e u' w' => e = .returned (.tuple #[]) ∧ u' = .returning ∧ w' = w := by
  refine callsD_of_wpS Try.func137 rfl fun c₀ cs hu => ?_
  apply wpS_seq
  apply wpS_region
  simp only [Try.ntmps137, List.size_toArray, List.length_cons, List.length_nil, Nat.reduceAdd, Nat.reduceSub, Array.replicate_succ, Array.replicate_zero, List.push_toArray, List.append_toArray, List.nil_append, List.cons_append]
  simp [wpOpsS, go_sem, recoverD, hu, Exit.thenS]
  apply wpS_of_wp
  go_wp2
  cases c₀
  simp_all [bodyPostS, results, Try.results137]
set_option maxHeartbeats 2000000 in
theorem tries122_calls (g : Nat) (cap : Array Value) (r : Out (List B8)) (w : World)
    (hinv : ∀ args w, (callFunc g args).run Try.prog w = .ok (.enter g args) w)
    (h : Calls Try.prog g cap ((w.alloc (.cells #[(.slice none 0 0)] 34)).alloc (.cells #[.int .i64 0] 28)) fun e w' => Below (w.heap.size + 1 + 1) ((w.alloc (.cells #[(.slice none 0 0)] 34)).alloc (.cells #[.int .i64 0] 28)) w' ∧
      match r with
      | .ok x => ∃ v, e = .returned v ∧ Own8 w' (w.heap.size + 1 + 1) v x
      | .error n => e = errP n) :
    Calls Try.prog 122 #[.func (.func g) #[] cap] w fun e w' => Below w.heap.size w w' ∧ ∃ v, e = .returned (.tuple #[v, .int .i64 r.err]) ∧ Own8 w' w.heap.size v (r.get []) := by
  have hmf : ∀ (fn : Fn) (first cap : Array Value) (w : World), (Instr.makeFunc fn first cap).run Try.prog w = .ok (.func fn first cap) w := fun _ _ _ _ => rfl
  have HB := Lib.hid (below_al (below_al (Below.refl _ w) (.cells #[(.slice none 0 0)] 34)) (.cells #[.int .i64 0] 28))
  have H0 := Lib.hid (new_next _ (.cells #[.int .i64 0] 28) (new_here w (.cells #[(.slice none 0 0)] 34)))
  have H1 : Hid (((w.alloc (.cells #[(.slice none 0 0)] 34)).alloc (.cells #[.int .i64 0] 28)).heap[w.heap.size + 1]? = some (.cells #[.int .i64 0] 28 (0, 0))) := Lib.hid (by have := new_here (w.alloc (.cells #[(.slice none 0 0)] 34)) (.cells #[.int .i64 0] 28); rwa [World.size_alloc] at this)
  cases r with
  | ok x =>
    simp only at h
    go_enter_defers Try.func122, Try.ntmps122
    go_wp2_with (go_at_fn g; refine h.mono ?_; rintro e w' ⟨hb, v, rfl, hr⟩; (obtain ⟨A, c0_, c1_, rfl⟩ : ∃ A c0_ c1_, v = .slice A c0_ c1_ := by obtain ⟨A, c, e⟩ := own8_shape hr; exact ⟨A, _, c, e⟩); (have HB' := Lib.hid hb); (have HO := Lib.hid hr); (have k0 := (hb.block w.heap.size (by omega)).trans H0.out); (have k1 := (hb.block (w.heap.size + 1) (by omega)).trans H1.out); (have c0 : w'.cell? ⟨w.heap.size, 0, none⟩ = some (.slice none 0 0) := cell_of_heap k0); (have f0 : w'.frozen? ⟨w.heap.size, 0, none⟩ = false := free_of_heap k0); (have k1' := heap_set_other1 (g := w.heap.size) (k := 0) (v := (.slice A c0_ c1_)) k1 (by omega)); (have c1 : (w'.setCell ⟨w.heap.size, 0, none⟩ (.slice A c0_ c1_)).cell? ⟨w.heap.size + 1, 0, none⟩ = some (.int .i64 0) := cell_of_heap k1'); (have f1 : (w'.setCell ⟨w.heap.size, 0, none⟩ (.slice A c0_ c1_)).frozen? ⟨w.heap.size + 1, 0, none⟩ = false := free_of_heap k1'); (have K0 := Lib.hid k0); (have K1 := Lib.hid k1'); (clear k0 k1 k1' hb hr))
    refine leaves_cons (f := 137) (args := #[.pointer (some ⟨w.heap.size, 0, none⟩), .pointer (some ⟨w.heap.size + 1, 0, none⟩)]) (by simp) (by simp [go_sem]) ?_
    refine (catch137_idle ⟨w.heap.size, 0, none⟩ ⟨w.heap.size + 1, 0, none⟩ _).mono ?_
    rintro e u' w'' ⟨rfl, rfl, rfl⟩
    have k0 := heap_setCell_same _ w.heap.size 0 (.slice A c0_ c1_) _ _ _ K0.out
    have k1 := heap_setCell_same _ (w.heap.size + 1) 0 (.int .i64 0) _ _ _ K1.out
    have k0' := heap_set_other1 (g := w.heap.size + 1) (k := 0) (v := .int .i64 0) k0 (by omega)
    have e0 : ((w'.setCell ⟨w.heap.size, 0, none⟩ (.slice A c0_ c1_)).setCell ⟨w.heap.size + 1, 0, none⟩ (.int .i64 0)).cell? ⟨w.heap.size, 0, none⟩ = some (.slice A c0_ c1_) := cell_of_heap k0'
    have e1 : ((w'.setCell ⟨w.heap.size, 0, none⟩ (.slice A c0_ c1_)).setCell ⟨w.heap.size + 1, 0, none⟩ (.int .i64 0)).cell? ⟨w.heap.size + 1, 0, none⟩ = some (.int .i64 0) := cell_of_heap k1
    simp [Leaves, settle, results, Try.results122, go_sem, e0, e1]
    refine ⟨((HB.out.trans (HB'.out.mono (by omega))).setCell (p := ⟨w.heap.size, 0, none⟩) (Nat.le_refl _) _).setCell (p := ⟨w.heap.size + 1, 0, none⟩) (Nat.le_succ _) _, ?_⟩
    exact ⟨_, ⟨rfl, rfl⟩, ((HO.out.keptN (grownBy_set _ _ _ _) (noBytes_of K0.out (by decide))).keptN (grownBy_set _ _ _ _) (noBytes_of K1.out (by decide))).base (by omega)⟩
  | error n =>
    simp only at h
    go_enter_defers Try.func122, Try.ntmps122
    go_wp2_with (go_at_fn g; refine h.mono ?_; rintro e w' ⟨hb, rfl⟩)
    refine leaves_cons (f := 137) (args := #[.pointer (some ⟨w.heap.size, 0, none⟩), .pointer (some ⟨w.heap.size + 1, 0, none⟩)]) (by simp) (by simp [go_sem]) ?_
    have k0 := (hb.block w.heap.size (by omega)).trans H0.out
    have k1 := (hb.block (w.heap.size + 1) (by omega)).trans H1.out
    refine (catch137_panicking w.heap.size _ n 0 [] _ k0 k1).mono ?_
    rintro e u' w'' ⟨rfl, rfl, rfl⟩
    have k1' := heap_set_other1 (g := w.heap.size) (k := 0) (v := (.slice none 0 0)) k1 (by omega)
    have j0 := heap_setCell_same _ w.heap.size 0 (.slice none 0 0) _ _ _ k0
    have j1 := heap_setCell_same _ (w.heap.size + 1) 0 (.int .i64 n) _ _ _ k1'
    have j0' := heap_set_other1 (g := w.heap.size + 1) (k := 0) (v := .int .i64 n) j0 (by omega)
    have e0 : ((w'.setCell ⟨w.heap.size, 0, none⟩ (.slice none 0 0)).setCell ⟨w.heap.size + 1, 0, none⟩ (.int .i64 n)).cell? ⟨w.heap.size, 0, none⟩ = some (.slice none 0 0) := cell_of_heap j0'
    have e1 : ((w'.setCell ⟨w.heap.size, 0, none⟩ (.slice none 0 0)).setCell ⟨w.heap.size + 1, 0, none⟩ (.int .i64 n)).cell? ⟨w.heap.size + 1, 0, none⟩ = some (.int .i64 n) := cell_of_heap j1
    simp [Leaves, settle, results, Try.results122, go_sem, e0, e1]
    refine ⟨((HB.out.trans (hb.mono (by omega))).setCell (p := ⟨w.heap.size, 0, none⟩) (Nat.le_refl _) _).setCell (p := ⟨w.heap.size + 1, 0, none⟩) (Nat.le_succ _) _, ?_⟩
    exact ⟨_, ⟨rfl, rfl⟩, Own8.nil _ _⟩
set_option maxHeartbeats 2000000 in
theorem catch140_panicking (a : Nat) (x0 : Value) (n x : Int) (older : List PanicEntry) (w : World) (h0 : w.heap[a]? = some (.cells #[x0] 25 (0, 0))) (h1 : w.heap[a + 1]? = some (.cells #[.int .i64 x] 28 (0, 0))) :
    CallsD Try.prog 140 #[.pointer (some ⟨a, 0, none⟩), .pointer (some ⟨a + 1, 0, none⟩)] (.panicking ({ v := .iface 28 (.int .i64 n), recovered := false } :: older)) w fun e u' w' =>
      e = .returned (.tuple #[]) ∧ u' = .panicking ({ v := .iface 28 (.int .i64 n), recovered := true } :: older) ∧ w' = (w.setCell ⟨a, 0, none⟩ (.int .u64 0)).setCell ⟨a + 1, 0, none⟩ (.int .i64 n) := by
  have c0 : w.cell? ⟨a, 0, none⟩ = some x0 := cell_of_heap h0
  have f0 : w.frozen? ⟨a, 0, none⟩ = false := free_of_heap h0
  have h1' := heap_set_other1 (g := a) (k := 0) (v := (.int .u64 0)) h1 (by omega)
  have c1 : (w.setCell ⟨a, 0, none⟩ (.int .u64 0)).cell? ⟨a + 1, 0, none⟩ = some (.int .i64 x) := cell_of_heap h1'
  have f1 : (w.setCell ⟨a, 0, none⟩ (.int .u64 0)).frozen? ⟨a + 1, 0, none⟩ = false := free_of_heap h1'
  clear h0 h1 h1'
  refine callsD_of_wpS Try.func140 rfl fun c₀ cs hu => ?_
  apply wpS_seq
  apply wpS_region
  simp only [Try.ntmps140, List.size_toArray, List.length_cons, List.length_nil, Nat.reduceAdd, Nat.reduceSub, Array.replicate_succ, Array.replicate_zero, List.push_toArray, List.append_toArray, List.nil_append, List.cons_append]
  simp [wpOpsS, go_sem, recoverD, hu, Exit.thenS]
  refine wpS_seq (wpS_of_wp ?_)
  go_wp2
  simp only [Exit.thenS]
  refine wpS_cond (t := true) rfl ?_
  simp only [if_true]
  refine wpS_of_wp ?_
  go_wp2
  simp [bodyPostS, results, Try.results140, go_sem]
set_option maxHeartbeats 2000000 in
theorem catch140_idle (p q : Addr) (w : World) :
    CallsD Try.prog 140 #[.pointer (some p), .pointer (some q)] .returning w fun e u' w' => e = .returned (.tuple #[]) ∧ u' = .returning ∧ w' = w := by
  refine callsD_of_wpS Try.func140 rfl fun c₀ cs hu => ?_
  apply wpS_seq
  apply wpS_region
  simp only [Try.ntmps140, List.size_toArray, List.length_cons, List.length_nil, Nat.reduceAdd, Nat.reduceSub, Array.replicate_succ, Array.replicate_zero, List.push_toArray, List.append_toArray, List.nil_append, List.cons_append]
  simp [wpOpsS, go_sem, recoverD, hu, Exit.thenS]
  apply wpS_of_wp
  go_wp2
  cases c₀
  simp_all [bodyPostS, results, Try.results140]
set_option maxHeartbeats 2000000 in
theorem tries128_calls (g : Nat) (cap : Array Value) (r : Out (Int)) (w : World)
    (hinv : ∀ args w, (callFunc g args).run Try.prog w = .ok (.enter g args) w)
    (h : Calls Try.prog g cap ((w.alloc (.cells #[(.int .u64 0)] 25)).alloc (.cells #[.int .i64 0] 28)) fun e w' => Below (w.heap.size + 1 + 1) ((w.alloc (.cells #[(.int .u64 0)] 25)).alloc (.cells #[.int .i64 0] 28)) w' ∧
      match r with
      | .ok x => e = .returned (.int .u64 x)
      | .error n => e = errP n) :
    Calls Try.prog 128 #[.func (.func g) #[] cap] w fun e w' => Below w.heap.size w w' ∧ e = .returned (.tuple #[.int .u64 (r.get 0), .int .i64 r.err]) := by
  have hmf : ∀ (fn : Fn) (first cap : Array Value) (w : World), (Instr.makeFunc fn first cap).run Try.prog w = .ok (.func fn first cap) w := fun _ _ _ _ => rfl
  have HB := Lib.hid (below_al (below_al (Below.refl _ w) (.cells #[(.int .u64 0)] 25)) (.cells #[.int .i64 0] 28))
  have H0 := Lib.hid (new_next _ (.cells #[.int .i64 0] 28) (new_here w (.cells #[(.int .u64 0)] 25)))
  have H1 : Hid (((w.alloc (.cells #[(.int .u64 0)] 25)).alloc (.cells #[.int .i64 0] 28)).heap[w.heap.size + 1]? = some (.cells #[.int .i64 0] 28 (0, 0))) := Lib.hid (by have := new_here (w.alloc (.cells #[(.int .u64 0)] 25)) (.cells #[.int .i64 0] 28); rwa [World.size_alloc] at this)
  cases r with
  | ok x =>
    simp only at h
    go_enter_defers Try.func128, Try.ntmps128
    go_wp2_with (go_at_fn g; refine h.mono ?_; rintro e w' ⟨hb, rfl⟩; (have HB' := Lib.hid hb); (have k0 := (hb.block w.heap.size (by omega)).trans H0.out); (have k1 := (hb.block (w.heap.size + 1) (by omega)).trans H1.out); (have c0 : w'.cell? ⟨w.heap.size, 0, none⟩ = some (.int .u64 0) := cell_of_heap k0); (have f0 : w'.frozen? ⟨w.heap.size, 0, none⟩ = false := free_of_heap k0); (have k1' := heap_set_other1 (g := w.heap.size) (k := 0) (v := (.int .u64 x)) k1 (by omega)); (have c1 : (w'.setCell ⟨w.heap.size, 0, none⟩ (.int .u64 x)).cell? ⟨w.heap.size + 1, 0, none⟩ = some (.int .i64 0) := cell_of_heap k1'); (have f1 : (w'.setCell ⟨w.heap.size, 0, none⟩ (.int .u64 x)).frozen? ⟨w.heap.size + 1, 0, none⟩ = false := free_of_heap k1'); (have K0 := Lib.hid k0); (have K1 := Lib.hid k1'); (clear k0 k1 k1' hb))
    refine leaves_cons (f := 140) (args := #[.pointer (some ⟨w.heap.size, 0, none⟩), .pointer (some ⟨w.heap.size + 1, 0, none⟩)]) (by simp) (by simp [go_sem]) ?_
    refine (catch140_idle ⟨w.heap.size, 0, none⟩ ⟨w.heap.size + 1, 0, none⟩ _).mono ?_
    rintro e u' w'' ⟨rfl, rfl, rfl⟩
    have k0 := heap_setCell_same _ w.heap.size 0 (.int .u64 x) _ _ _ K0.out
    have k1 := heap_setCell_same _ (w.heap.size + 1) 0 (.int .i64 0) _ _ _ K1.out
    have k0' := heap_set_other1 (g := w.heap.size + 1) (k := 0) (v := .int .i64 0) k0 (by omega)
    have e0 : ((w'.setCell ⟨w.heap.size, 0, none⟩ (.int .u64 x)).setCell ⟨w.heap.size + 1, 0, none⟩ (.int .i64 0)).cell? ⟨w.heap.size, 0, none⟩ = some (.int .u64 x) := cell_of_heap k0'
    have e1 : ((w'.setCell ⟨w.heap.size, 0, none⟩ (.int .u64 x)).setCell ⟨w.heap.size + 1, 0, none⟩ (.int .i64 0)).cell? ⟨w.heap.size + 1, 0, none⟩ = some (.int .i64 0) := cell_of_heap k1
    simp [Leaves, settle, results, Try.results128, go_sem, e0, e1]
    refine ⟨((HB.out.trans (HB'.out.mono (by omega))).setCell (p := ⟨w.heap.size, 0, none⟩) (Nat.le_refl _) _).setCell (p := ⟨w.heap.size + 1, 0, none⟩) (Nat.le_succ _) _, ?_⟩
    exact ⟨rfl, rfl⟩
  | error n =>
    simp only at h
    go_enter_defers Try.func128, Try.ntmps128
    go_wp2_with (go_at_fn g; refine h.mono ?_; rintro e w' ⟨hb, rfl⟩)
    refine leaves_cons (f := 140) (args := #[.pointer (some ⟨w.heap.size, 0, none⟩), .pointer (some ⟨w.heap.size + 1, 0, none⟩)]) (by simp) (by simp [go_sem]) ?_
    have k0 := (hb.block w.heap.size (by omega)).trans H0.out
    have k1 := (hb.block (w.heap.size + 1) (by omega)).trans H1.out
    refine (catch140_panicking w.heap.size _ n 0 [] _ k0 k1).mono ?_
    rintro e u' w'' ⟨rfl, rfl, rfl⟩
    have k1' := heap_set_other1 (g := w.heap.size) (k := 0) (v := (.int .u64 0)) k1 (by omega)
    have j0 := heap_setCell_same _ w.heap.size 0 (.int .u64 0) _ _ _ k0
    have j1 := heap_setCell_same _ (w.heap.size + 1) 0 (.int .i64 n) _ _ _ k1'
    have j0' := heap_set_other1 (g := w.heap.size + 1) (k := 0) (v := .int .i64 n) j0 (by omega)
    have e0 : ((w'.setCell ⟨w.heap.size, 0, none⟩ (.int .u64 0)).setCell ⟨w.heap.size + 1, 0, none⟩ (.int .i64 n)).cell? ⟨w.heap.size, 0, none⟩ = some (.int .u64 0) := cell_of_heap j0'
    have e1 : ((w'.setCell ⟨w.heap.size, 0, none⟩ (.int .u64 0)).setCell ⟨w.heap.size + 1, 0, none⟩ (.int .i64 n)).cell? ⟨w.heap.size + 1, 0, none⟩ = some (.int .i64 n) := cell_of_heap j1
    simp [Leaves, settle, results, Try.results128, go_sem, e0, e1]
    refine ⟨((HB.out.trans (hb.mono (by omega))).setCell (p := ⟨w.heap.size, 0, none⟩) (Nat.le_refl _) _).setCell (p := ⟨w.heap.size + 1, 0, none⟩) (Nat.le_succ _) _, ?_⟩
    exact ⟨rfl, rfl⟩
end Go.Proofs.Ytnhmhnejglpijaa
