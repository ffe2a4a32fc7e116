/- A loop over an iterator that hands out items with what is known of each; all rounds go on. -/
import Derived.Test.YtnhmhnejglpijaaQn
import Derived.RangeFuncNested
import Derived.RangeFuncBound
import Derived.RangeFuncCalls
import Derived.RangeFuncLeaves
import Derived.ScopeJumps
namespace Go.Proofs.Ytnhmhnejglpijaa
open Go.RowKit Go.Shelf
set_option maxRecDepth 100000
set_option linter.unusedSimpArgs false
set_option linter.unusedVariables false
/-- J is not touched by what happens to blocks of the iterator's own type -/
def Abide {β : Type} (T : TypeId) (D : Nat) (J : β → World → Prop) : Prop :=
  ∀ s A B row, J s A → A.grownBy B row → (∀ r, row = some r → D ≤ r ∧ ∃ c f, A.heap[r]? = some (.cells c T f)) → J s B
def SeqOk {α : Type} (n g : Nat) (lb : Array Value) (enc : α → Array Value) (Ok : List α → α → World → Prop) (Kp : World → World → Prop) (T : TypeId) (S : List α → Prop) (w : World) : Prop :=
  ∀ (l : Nat) (J : List α → World → Prop) (W : World), Below w.heap.size w W → Abide T w.heap.size J →
    (∀ pre x W1, J pre W1 → Ok pre x W1 → YieldAt Fence.wide (n - 1) Try.prog l (enc x) W1 fun e W' => e = .returned (.bool true) ∧ J (pre ++ [x]) W' ∧ Kp W1 W') →
    J [] W → CallsIn Fence.wide n Try.prog g (#[.func (.yield l) #[] #[]] ++ lb) W fun e W' => (∃ v, e = .returned v) ∧ ∃ xs, S xs ∧ J xs W'
/-- what a loop's own records may do to what the caller keeps -/
def Stays {β : Type} (T : TypeId) (D : Nat) (I : β → World → Prop) : Prop :=
  ∀ s A B row, I s A → A.grownBy B row → (∀ r, row = some r → D ≤ r ∧ ((∃ c f, A.heap[r]? = some (.cells c T f)) ∨ (∃ o : Obj, A.heap[r]? = some o ∧ o.isCells = false))) → I s B
def AllOn {α : Type} (Kp : World → World → Prop) (I : List α → World → Prop) (xs : List α) (W : World) : Exit → Act → World → Prop
  | .normal, _, W' => KeepsOthers W W' ∧ Kp W W' ∧ I xs W'
  | _, _, _ => False
theorem range_ok {α : Type} {g : Operand} {ps : Array Tmp} {assign body : Code} {Q : Exit → Act → World → Prop} {a : Act} {w : World} {n : Nat}
    (h1 : 1 ≤ n) {gf : Nat} {lb : Array Value} (hg : a.eval g = .func (.func gf) #[] lb) (eg : ∀ args w, (callFunc gf args).run Try.prog w = .ok (.enter gf args) w)
    {enc : α → Array Value} {Ok : List α → α → World → Prop} {Kp : World → World → Prop} {T : TypeId} {S : List α → Prop} (hseq : SeqOk (n - 1) gf lb enc Ok Kp T S w)
    (hKt : ∀ {A B C : World}, Kp A B → Kp B C → Kp A C) (hKb : ∀ (W : World) (l : Nat) (o o' : Obj), W.heap[l]? = some o → o.isCells = false → Kp W (W.putObj l o'))
    (hOb : ∀ (pre : List α) (x : α) (W : World) (l : Nat) (o o' : Obj), Ok pre x W → W.heap[l]? = some o → o.isCells = false → Ok pre x (W.putObj l o')) (hps : ∀ x, (enc x).size = ps.size)
    (I : List α → World → Prop) (hI : Stays T w.heap.size I) (h0 : I [] w) (a₁ : α → Act)
    (hassign : ∀ (l : Nat) (x : α) (W : World) (K : Act → World → Prop), K (a₁ x) W →
      assign.wpIn (Fence.wide.inRound l) (n - 1 - 1) Try.prog (Exit.then K (fun _ _ _ => False)) { tmps := (ps.zip (enc x)).foldl (fun t (p, v) => t.setIfInBounds p v) a.tmps, defers := [] } W)
    (hbody : ∀ (l : Nat) (pre : List α) (x : α) (W : World), I pre W → Ok pre x W → body.wpIn (Fence.wide.inRound l) (n - 1 - 1) Try.prog (AllOn Kp I (pre ++ [x]) W) (a₁ x) W)
    (hdone : ∀ (D : Nat) (xs : List α) (W : World), w.heap.size ≤ D → S xs → I xs W → W.heap[D]? = some (.deferred (some [])) → Q .normal { a with defers := { target := .collected D, args := #[] } :: a.defers } W) :
    (Code.rangeFunc g ps assign body).wpIn Fence.wide n Try.prog Q a w := by
  refine wpIn_rangeFunc fun fn hfn => ?_
  have hround : Fence.wide.round = none := rfl
  rw [hround]
  let Rec : LoopState → Option Code → Loop := fun st pe => { state := st, pending := pe, fn := fn, tmps := a.tmps, params := ps, assign := assign, body := body, defers := w.heap.size }
  obtain ⟨mk, hmk⟩ : ∃ mk : LoopState → Option Code → Loop, mk = Rec := ⟨_, rfl⟩
  obtain ⟨X, hX⟩ : ∃ X, (w.alloc (.deferred (some []))).alloc (.loop (mk .ready none)) = X := ⟨_, rfl⟩
  have hbX : Below w.heap.size w X := by rw [← hX]; exact below_al (below_al (Below.refl _ _) _) _
  have hD : X.heap[w.heap.size]? = some (.deferred (some [])) := by rw [← hX]; exact (Below.heap_alloc _ _ _ (by simp)).trans (World.alloc_heap_new w _)
  have hL : X.heap[w.heap.size + 1]? = some (.loop (mk .ready none)) := by
    rw [← hX]
    have := World.alloc_heap_new (w.alloc (.deferred (some []))) (.loop (mk .ready none))
    rwa [World.size_alloc] at this
  have hIX : I [] X := hI [] w X none h0 (grown_of_below hbX) (fun r e => by cases e)
  refine ⟨w.heap.size + 1, [{ target := .collected w.heap.size, args := #[] }], X, { target := .fn (.func gf) lb, args := #[.func (.yield (w.heap.size + 1)) #[] #[]] }, X, gf, #[.func (.yield (w.heap.size + 1)) #[] #[]] ++ lb, X, ?_, ?_, ?_, ?_, fun _ => h1, ?_⟩
  · rw [← hX, hmk]
    exact run_enterLoop_outer _ _ _ _ _
  · simp only [resolve, hg]
    simp [go_sem]
  · intro f' hf'
    exact trivial
  · simp [invoke, go_sem, eg]
  -- the caller's word, beside the loop's two records
  let J : List α → World → Prop := fun pre W => I pre W ∧ W.heap[w.heap.size + 1]? = some (.loop (mk .ready none)) ∧ W.heap[w.heap.size]? = some (.deferred (some []))
  have hJ : Abide T w.heap.size J := by
    rintro s A B row ⟨j1, j2, j3⟩ hgr hr
    have ne : ∀ {k : Nat} {o : Obj}, A.heap[k]? = some o → o.isCells = false → B.heap[k]? = some o := fun {k o} hk ho => by
      refine (hgr.block k (Array.getElem?_eq_some_iff.1 hk).1 (fun e => ?_)).trans hk
      obtain ⟨_, c, f, hc⟩ := hr k e.symm
      rw [hk] at hc
      cases hc
      cases ho
    exact ⟨hI s A B row j1 hgr (fun r e => ⟨(hr r e).1, .inl (hr r e).2⟩), ne j2 rfl, ne j3 rfl⟩
  refine (hseq (w.heap.size + 1) J X hbX hJ ?_ ⟨hIX, hL, hD⟩).mono ?_
  · rintro pre x W ⟨i1, i2, i3⟩ hok
    have hlt : w.heap.size + 1 < W.heap.size := (Array.getElem?_eq_some_iff.1 i2).1
    have hy := run_yield (P := Try.prog) (args := enc x) i2 (by rw [hmk]; exact hps x)
    rw [hmk] at hy
    refine ⟨fn, _, assign, body, hy, roundIn_of_wpIn hfn (hassign _ x W _ ⟨_, run_beginRound i2 (by rw [hmk]), ?_⟩)⟩
    obtain ⟨B, hB⟩ : ∃ B, W.putObj (w.heap.size + 1) (.loop { mk .ready none with state := .busy }) = B := ⟨_, rfl⟩
    have b1 : B.heap[w.heap.size + 1]? = some (.loop { mk .ready none with state := .busy }) := by rw [← hB]; exact World.putObj_heap_same hlt
    have b2 : B.heap[w.heap.size]? = some (.deferred (some [])) := by rw [← hB]; exact (World.putObj_heap_other (by omega)).trans i3
    have b3 : I pre B := by
      rw [← hB]
      exact hI pre W _ (some (w.heap.size + 1)) i1 (grownBy_putObj' W _ _) (fun r e => by cases e; exact ⟨by omega, .inr ⟨_, i2, rfl⟩⟩)
    have b4 : Ok pre x B := by rw [← hB]; exact hOb pre x W _ _ _ hok i2 rfl
    have b5 : Kp W B := by rw [← hB]; exact hKb W _ _ _ i2 rfl
    rw [hB]
    refine wpIn_mono (hbody (w.heap.size + 1) pre x B b3 b4) ?_
    rintro e a3 C hp
    cases e with
    | normal =>
      obtain ⟨c1, c2, c3⟩ := hp
      have d1 := c1.same _ _ b1 rfl
      have d2 := c1.same _ _ b2 rfl
      have hend := run_endRound (P := Try.prog) none d1
      refine ⟨_, _, hend, rfl, ⟨?_, ?_, ?_⟩, ?_⟩
      · exact hI _ C _ (some (w.heap.size + 1)) c3 (grownBy_putObj' C _ _) (fun r e => by cases e; exact ⟨by omega, .inr ⟨_, d1, rfl⟩⟩)
      · rw [World.putObj_heap_same (Array.getElem?_eq_some_iff.1 d1).1, hmk]
        rfl
      · exact (World.putObj_heap_other (by omega)).trans d2
      · exact hKt (hKt b5 c2) (hKb C _ _ _ d1 rfl)
    | ret => exact hp.elim
    | exit id => exact hp.elim
    | goto t => exact hp.elim
    | panic ch => exact hp.elim
    | outgrown => exact hp.elim
  · rintro e W2 ⟨⟨v, rfl⟩, xs, hS, i1, i2, i3⟩
    have hend := run_endLoop (P := Try.prog) i2 (by rw [hmk]; simp [Rec])
    rw [hmk] at hend
    refine ⟨none, _, hend, ?_⟩
    refine hdone w.heap.size xs _ (Nat.le_refl _) hS ?_ ((World.putObj_heap_other (by omega)).trans i3)
    exact hI _ W2 _ (some (w.heap.size + 1)) i1 (grownBy_putObj' W2 _ _) (fun r e => by cases e; exact ⟨by omega, .inr ⟨_, i2, rfl⟩⟩)
/-- the same where ahead of each round something is laid -/
theorem range_ok2 {α : Type} {g : Operand} {ps : Array Tmp} {assign body : Code} {Q : Exit → Act → World → Prop} {a : Act} {w : World} {n : Nat}
    (h1 : 1 ≤ n) {gf : Nat} {lb : Array Value} (hg : a.eval g = .func (.func gf) #[] lb) (eg : ∀ args w, (callFunc gf args).run Try.prog w = .ok (.enter gf args) w)
    {enc : α → Array Value} {Ok : List α → α → World → Prop} {Kp : World → World → Prop} {T : TypeId} {S : List α → Prop} (hseq : SeqOk (n - 1) gf lb enc Ok Kp T S w)
    (hKt : ∀ {A B C : World}, Kp A B → Kp B C → Kp A C) (hKb : ∀ (W : World) (l : Nat) (o o' : Obj), W.heap[l]? = some o → o.isCells = false → Kp W (W.putObj l o'))
    (hOb : ∀ (pre : List α) (x : α) (W : World) (l : Nat) (o o' : Obj), Ok pre x W → W.heap[l]? = some o → o.isCells = false → Ok pre x (W.putObj l o')) (hps : ∀ x, (enc x).size = ps.size)
    (I : List α → World → Prop) (hI : Stays T w.heap.size I) (h0 : I [] w) (a₁ : α → World → Act) (nx : α → World → World) (hnx : ∀ x W, Below W.heap.size W (nx x W)) (hKn : ∀ W W', Below W.heap.size W W' → Kp W W') (hOn : ∀ pre x W W', Ok pre x W → Below W.heap.size W W' → Ok pre x W')
    (Rb : α → World → World → Prop) (hRb : ∀ (x : α) (W : World) (l : Nat) (o o' : Obj), W.heap[l]? = some o → o.isCells = false → Rb x W ((nx x W).putObj l o'))
    (hassign : ∀ (l : Nat) (x : α) (W : World) (K : Act → World → Prop), K (a₁ x W) (nx x W) →
      assign.wpIn (Fence.wide.inRound l) (n - 1 - 1) Try.prog (Exit.then K (fun _ _ _ => False)) { tmps := (ps.zip (enc x)).foldl (fun t (p, v) => t.setIfInBounds p v) a.tmps, defers := [] } W)
    (hbody : ∀ (l : Nat) (pre : List α) (x : α) (W B : World), I pre B → Ok pre x B → Rb x W B → body.wpIn (Fence.wide.inRound l) (n - 1 - 1) Try.prog (AllOn Kp I (pre ++ [x]) B) (a₁ x W) B)
    (hdone : ∀ (D : Nat) (xs : List α) (W : World), w.heap.size ≤ D → S xs → I xs W → W.heap[D]? = some (.deferred (some [])) → Q .normal { a with defers := { target := .collected D, args := #[] } :: a.defers } W) :
    (Code.rangeFunc g ps assign body).wpIn Fence.wide n Try.prog Q a w := by
  refine wpIn_rangeFunc fun fn hfn => ?_
  have hround : Fence.wide.round = none := rfl
  rw [hround]
  let Rec : LoopState → Option Code → Loop := fun st pe => { state := st, pending := pe, fn := fn, tmps := a.tmps, params := ps, assign := assign, body := body, defers := w.heap.size }
  obtain ⟨mk, hmk⟩ : ∃ mk : LoopState → Option Code → Loop, mk = Rec := ⟨_, rfl⟩
  obtain ⟨X, hX⟩ : ∃ X, (w.alloc (.deferred (some []))).alloc (.loop (mk .ready none)) = X := ⟨_, rfl⟩
  have hbX : Below w.heap.size w X := by rw [← hX]; exact below_al (below_al (Below.refl _ _) _) _
  have hD : X.heap[w.heap.size]? = some (.deferred (some [])) := by rw [← hX]; exact (Below.heap_alloc _ _ _ (by simp)).trans (World.alloc_heap_new w _)
  have hL : X.heap[w.heap.size + 1]? = some (.loop (mk .ready none)) := by
    rw [← hX]
    have := World.alloc_heap_new (w.alloc (.deferred (some []))) (.loop (mk .ready none))
    rwa [World.size_alloc] at this
  have hIX : I [] X := hI [] w X none h0 (grown_of_below hbX) (fun r e => by cases e)
  refine ⟨w.heap.size + 1, [{ target := .collected w.heap.size, args := #[] }], X, { target := .fn (.func gf) lb, args := #[.func (.yield (w.heap.size + 1)) #[] #[]] }, X, gf, #[.func (.yield (w.heap.size + 1)) #[] #[]] ++ lb, X, ?_, ?_, ?_, ?_, fun _ => h1, ?_⟩
  · rw [← hX, hmk]
    exact run_enterLoop_outer _ _ _ _ _
  · simp only [resolve, hg]
    simp [go_sem]
  · intro f' hf'
    exact trivial
  · simp [invoke, go_sem, eg]
  -- the caller's word, beside the loop's two records
  let J : List α → World → Prop := fun pre W => I pre W ∧ W.heap[w.heap.size + 1]? = some (.loop (mk .ready none)) ∧ W.heap[w.heap.size]? = some (.deferred (some []))
  have hJ : Abide T w.heap.size J := by
    rintro s A B row ⟨j1, j2, j3⟩ hgr hr
    have ne : ∀ {k : Nat} {o : Obj}, A.heap[k]? = some o → o.isCells = false → B.heap[k]? = some o := fun {k o} hk ho => by
      refine (hgr.block k (Array.getElem?_eq_some_iff.1 hk).1 (fun e => ?_)).trans hk
      obtain ⟨_, c, f, hc⟩ := hr k e.symm
      rw [hk] at hc
      cases hc
      cases ho
    exact ⟨hI s A B row j1 hgr (fun r e => ⟨(hr r e).1, .inl (hr r e).2⟩), ne j2 rfl, ne j3 rfl⟩
  refine (hseq (w.heap.size + 1) J X hbX hJ ?_ ⟨hIX, hL, hD⟩).mono ?_
  · rintro pre x W ⟨i1, i2, i3⟩ hok
    have hlt : w.heap.size + 1 < W.heap.size := (Array.getElem?_eq_some_iff.1 i2).1
    have hy := run_yield (P := Try.prog) (args := enc x) i2 (by rw [hmk]; exact hps x)
    rw [hmk] at hy
    have hn := hnx x W
    have i4 := (hn.block _ hlt).trans i2
    have i5 := (hn.block _ (Array.getElem?_eq_some_iff.1 i3).1).trans i3
    have hlt4 := (Array.getElem?_eq_some_iff.1 i4).1
    refine ⟨fn, _, assign, body, hy, roundIn_of_wpIn hfn (hassign _ x W _ ⟨_, run_beginRound i4 (by rw [hmk]), ?_⟩)⟩
    obtain ⟨B, hB⟩ : ∃ B, (nx x W).putObj (w.heap.size + 1) (.loop { mk .ready none with state := .busy }) = B := ⟨_, rfl⟩
    have b1 : B.heap[w.heap.size + 1]? = some (.loop { mk .ready none with state := .busy }) := by rw [← hB]; exact World.putObj_heap_same hlt4
    have b2 : B.heap[w.heap.size]? = some (.deferred (some [])) := by rw [← hB]; exact (World.putObj_heap_other (by omega)).trans i5
    have b3 : I pre B := by
      rw [← hB]
      exact hI pre (nx x W) _ (some (w.heap.size + 1)) (hI pre W (nx x W) none i1 (grown_of_below hn) (fun r e => by cases e)) (grownBy_putObj' _ _ _) (fun r e => by cases e; exact ⟨by omega, .inr ⟨_, i4, rfl⟩⟩)
    have b4 : Ok pre x B := by rw [← hB]; exact hOb pre x _ _ _ _ (hOn pre x W _ hok hn) i4 rfl
    have b5 : Kp W B := by rw [← hB]; exact hKt (hKn W _ hn) (hKb _ _ _ _ i4 rfl)
    have b6 : Rb x W B := by rw [← hB]; exact hRb x W _ _ _ i2 rfl
    rw [hB]
    refine wpIn_mono (hbody (w.heap.size + 1) pre x W B b3 b4 b6) ?_
    rintro e a3 C hp
    cases e with
    | normal =>
      obtain ⟨c1, c2, c3⟩ := hp
      have d1 := c1.same _ _ b1 rfl
      have d2 := c1.same _ _ b2 rfl
      have hend := run_endRound (P := Try.prog) none d1
      refine ⟨_, _, hend, rfl, ⟨?_, ?_, ?_⟩, ?_⟩
      · exact hI _ C _ (some (w.heap.size + 1)) c3 (grownBy_putObj' C _ _) (fun r e => by cases e; exact ⟨by omega, .inr ⟨_, d1, rfl⟩⟩)
      · rw [World.putObj_heap_same (Array.getElem?_eq_some_iff.1 d1).1, hmk]
        rfl
      · exact (World.putObj_heap_other (by omega)).trans d2
      · exact hKt (hKt b5 c2) (hKb C _ _ _ d1 rfl)
    | ret => exact hp.elim
    | exit id => exact hp.elim
    | goto t => exact hp.elim
    | panic ch => exact hp.elim
    | outgrown => exact hp.elim
  · rintro e W2 ⟨⟨v, rfl⟩, xs, hS, i1, i2, i3⟩
    have hend := run_endLoop (P := Try.prog) i2 (by rw [hmk]; simp [Rec])
    rw [hmk] at hend
    refine ⟨none, _, hend, ?_⟩
    refine hdone w.heap.size xs _ (Nat.le_refl _) hS ?_ ((World.putObj_heap_other (by omega)).trans i3)
    exact hI _ W2 _ (some (w.heap.size + 1)) i1 (grownBy_putObj' W2 _ _) (fun r e => by cases e; exact ⟨by omega, .inr ⟨_, i2, rfl⟩⟩)
theorem wpInW_scope_jumps {P : Program} {n : Nat} {c rest : Code} {Q : Exit → Act → World → Prop} {a : Act} {w : World} (l : Nat) (J : Act → World → Prop) (μ : Act → World → Nat) (hf : findLabel c l = some rest)
    (first : c.wpIn Fence.wide n P (Exit.jump l J Q) a w) (pass : ∀ a w, J a w → rest.wpIn Fence.wide n P (Exit.jump l (fun a' w' => J a' w' ∧ μ a' w' < μ a w) Q) a w) : (Code.scope c).wpIn Fence.wide n P Q a w :=
  (wpIn_wide (n := n)).2 (wp_scope_jumps l J μ hf ((wpIn_wide (n := n)).1 first) fun a w h => (wpIn_wide (n := n)).1 (pass a w h))
end Go.Proofs.Ytnhmhnejglpijaa
