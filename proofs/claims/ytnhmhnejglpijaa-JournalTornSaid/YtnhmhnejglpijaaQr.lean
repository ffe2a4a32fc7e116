/- journal: Scan: the walk. -/
import Derived.Test.YtnhmhnejglpijaaQp
import Derived.Test.YtnhmhnejglpijaaQn
import Derived.Test.YtnhmhnejglpijaaQs
namespace Go.Proofs.Ytnhmhnejglpijaa
open Go.RowKit Go.Shelf
attribute [local go_sem] Oper.semAt_some
set_option maxRecDepth 100000
set_option linter.unusedSimpArgs false
set_option linter.unusedVariables false
theorem recs_seq (n : Nat) (hn : 1 ≤ n) (Bs : Nat) (A : Option Addr) (cap : Nat) (bs : List B8) (hl : bs.length ≤ 1000000) (w : World) (hBs : w.heap[Bs]? = some (.cells #[.slice A bs.length cap] 34 (0, 0))) (hb : Bt w (.slice A bs.length cap) bs) :
    SeqOk n 114 #[.pointer (some ⟨Bs, 0, none⟩)] Rc.vals (RcOk bs) RcKp 150 (fun xs => xs.map Rc.pair = recAt bs 0) w :=
  fun l J W hW hJ hY h0 => rec1_in n hn l Bs A cap bs hl J _ hJ hY W hW.size ((hW.block _ (lt_of_heap hBs)).trans hBs) (hb.below hW) h0
theorem records_in (n : Nat) (A : Option Addr) (m c : Nat) (w : World) :
    CallsIn Fence.wide n Try.prog 87 #[.slice A m c] w fun e w' => e = .returned (.func (.func 114) #[] #[.pointer (some ⟨w.heap.size, 0, none⟩)]) ∧ w' = w.alloc (.cells #[.slice A m c] 34) := by
  have hmf : ∀ (fn : Fn) (first cap : Array Value) (w : World), (Instr.makeFunc fn first cap).run Try.prog w = .ok (.func fn first cap) w := fun _ _ _ _ => rfl
  refine callsIn_of_wp Try.func87 rfl trivial ?_ rfl
  simp only [Try.ntmps87, List.size_toArray, List.length_cons, List.length_nil, Nat.reduceAdd, Nat.reduceSub, Array.replicate_succ, Array.replicate_zero, List.push_toArray, List.append_toArray, List.nil_append, List.cons_append]
  gi_wp2
  go_ret
  exact ⟨rfl, rfl⟩
/-- what Scan keeps between two rounds -/
structure ScI (w : World) (pre : List Rc) (W : World) : Prop where
  below : Below w.heap.size w W
  out : ∃ v, W.heap[w.heap.size]? = some (.cells #[v] 63 (0, 0)) ∧ OwnRs (fun W v bs => Own8 W w.heap.size v bs) W w.heap.size v (heldL (pre.map Rc.pair))
  sz : W.heap[w.heap.size + 1]? = some (.cells #[.int .i64 (endL (pre.map Rc.pair) : Int)] 3 (0, 0))
theorem grownBy_ne {A B : World} {row : Option Nat} {k : Nat} {o : Obj} (hg : A.grownBy B row) (hk : A.heap[k]? = some o) (hne : ∀ r, row = some r → A.heap[r]? ≠ some o) : B.heap[k]? = some o :=
  (hg.block k (lt_of_heap hk) (fun e => hne k e.symm hk)).trans hk
theorem OwnRs.keptX {B : Nat} {w w' : World} {B0 : Nat} {v : Value} {rows : List (List B8)} (h : OwnRs (fun W v bs => Own8 W B v bs) w B0 v rows) {row : Option Nat} (hg : w.grownBy w' row)
    (hr : ∀ r, row = some r → ∀ c f, w.heap[r]? ≠ some (.cells c 5 f) ∧ w.heap[r]? ≠ some (.cells c 34 f)) : OwnRs (fun W v bs => Own8 W B v bs) w' B0 v rows := by
  obtain ⟨qs, e, ho, hq⟩ := h
  refine ⟨qs, e, ho.kept hg ?_, fun q hm => World.ownsRow.kept (hq q hm) hg ?_⟩
  · cases hb : v.ownBlock with
    | none => exact .inl rfl
    | some b =>
      refine .inr fun e => ?_
      obtain ⟨c, hc⟩ := row_type ho b hb
      exact (hr b e.symm c (0, 0)).2 hc
  · cases hb : q.2.ownBlock with
    | none => exact .inl rfl
    | some b =>
      refine .inr fun e => ?_
      obtain ⟨c, hc⟩ := row_type (hq q hm) b hb
      exact (hr b e.symm c (0, 0)).1 hc
theorem ScI.stays (w : World) (D : Nat) (hD : w.heap.size ≤ D) : Stays 150 D (ScI w) := by
  intro pre A B row h hg hr
  obtain ⟨v, hv, ho⟩ := h.out
  have key : ∀ r, row = some r → ∀ c t f, t ≠ 150 → A.heap[r]? ≠ some (.cells c t f) := by
    intro r e c t f ht hc
    obtain ⟨_, ⟨c', f', h'⟩ | ⟨o, h', ho'⟩⟩ := hr r e
    · rw [hc] at h'
      cases h'
      exact ht rfl
    · rw [hc] at h'
      cases h'
      cases ho'
  exact ⟨h.below.grown hg h.below.size (fun k e => Nat.le_trans hD (hr k e).1), ⟨v, grownBy_ne hg hv (fun r e => key r e _ _ _ (by decide)), ho.keptX hg (fun r e c f => ⟨key r e c 5 f (by decide), key r e c 34 f (by decide)⟩)⟩, grownBy_ne hg h.sz (fun r e => key r e _ _ _ (by decide))⟩
theorem scan_done {w B X w8 : World} {pre : List Rc} {x : Rc} {v vn : Value} (hI : ScI w pre B) (hv : B.heap[w.heap.size]? = some (.cells #[v] 63 (0, 0))) (ho : OwnRs (fun W v bs => Own8 W w.heap.size v bs) B w.heap.size v (heldL (pre.map Rc.pair)))
    (hX : Below B.heap.size B X) (hg : X.grownBy w8 v.ownBlock) (h8 : OwnRs (fun W v bs => Own8 W w.heap.size v bs) w8 w.heap.size vn (heldL (pre.map Rc.pair) ++ [x.held])) (z : Int) (hz : z = ((endL ((pre ++ [x]).map Rc.pair) : Nat) : Int)) :
    KeepsOthers B ((w8.setCell ⟨w.heap.size, 0, none⟩ vn).setCell ⟨w.heap.size + 1, 0, none⟩ (.int .i64 z)) ∧ RcKp B ((w8.setCell ⟨w.heap.size, 0, none⟩ vn).setCell ⟨w.heap.size + 1, 0, none⟩ (.int .i64 z)) ∧ ScI w (pre ++ [x]) ((w8.setCell ⟨w.heap.size, 0, none⟩ vn).setCell ⟨w.heap.size + 1, 0, none⟩ (.int .i64 z)) := by
  subst hz
  have far : ∀ {k : Nat} {o : Obj}, B.heap[k]? = some o → (∀ c, o ≠ .cells c 34 (0, 0)) → w8.heap[k]? = some o := by
    intro k o hk hne
    have h1 : X.heap[k]? = some o := (hX.block k (lt_of_heap hk)).trans hk
    refine grownBy_ne hg h1 (fun r e hr => ?_)
    obtain ⟨_, c, hc⟩ := ho.type r e
    have := (hX.block r (lt_of_heap hc)).trans hc
    rw [hr] at this
    cases this
    exact hne c rfl
  have hb8 : w8.heap[w.heap.size]? = some (.cells #[v] 63 (0, 0)) := far hv (fun c e => by cases e)
  have hs8 : w8.heap[w.heap.size + 1]? = some (.cells #[.int .i64 (endL (pre.map Rc.pair) : Int)] 3 (0, 0)) := far hI.sz (fun c e => by cases e)
  have hb9 : (w8.setCell ⟨w.heap.size, 0, none⟩ vn).heap[w.heap.size]? = some (.cells #[vn] 63 (0, 0)) := by rw [heap_setCell_same _ _ _ _ _ _ _ hb8]; rfl
  have hs9 : (w8.setCell ⟨w.heap.size, 0, none⟩ vn).heap[w.heap.size + 1]? = some (.cells #[.int .i64 (endL (pre.map Rc.pair) : Int)] 3 (0, 0)) := (Below.heap_setCell _ _ _ _ (by simp)).trans hs8
  have hlow : Below w.heap.size w w8 := (hI.below.trans (hX.mono hI.below.size)).grown hg (by have := hX.size; have := hI.below.size; omega) (fun k e => (ho.lt k e).1)
  refine ⟨?_, ⟨?_, ?_⟩, ⟨?_, ⟨vn, ?_, ?_⟩, ?_⟩⟩
  · have k1 : KeepsOthers B X := KeepsOthers.of_grownBy (grown_of_below hX) (fun j o e => by cases e)
    have k2 : KeepsOthers X w8 := KeepsOthers.of_grownBy hg (fun j o e hj => by
      obtain ⟨_, c, hc⟩ := ho.type j e
      have := (hX.block j (lt_of_heap hc)).trans hc
      rw [hj] at this
      cases this
      rfl)
    exact ((k1.trans k2).trans (KeepsOthers.setCell _ _ _)).trans (KeepsOthers.setCell _ _ _)
  · have := hX.size
    have := hg.size
    simp only [World.size_setCell]
    omega
  · intro b c t f hb ht
    have h1 := far hb (fun c' e => by cases e; rcases ht with h | h <;> cases h)
    have n1 : b ≠ w.heap.size := fun e => by
      subst e
      rw [hv] at hb
      cases hb
      rcases ht with h | h <;> cases h
    have n2 : b ≠ w.heap.size + 1 := fun e => by
      subst e
      rw [hI.sz] at hb
      cases hb
      rcases ht with h | h <;> cases h
    exact (Below.heap_setCell _ _ _ _ n2).trans ((Below.heap_setCell _ _ _ _ n1).trans h1)
  · exact (hlow.setCell (Nat.le_refl _) _).setCell (Nat.le_succ _) _
  · exact (Below.heap_setCell _ _ _ _ (by simp)).trans hb9
  · have f1 : ∀ r, some w.heap.size = some r → ∀ c f, w8.heap[r]? ≠ some (.cells c 5 f) ∧ w8.heap[r]? ≠ some (.cells c 34 f) := by
      intro r e c f
      cases e
      rw [hb8]
      exact ⟨fun h => (by cases h), fun h => (by cases h)⟩
    have f2 : ∀ r, some (w.heap.size + 1) = some r → ∀ c f, (w8.setCell ⟨w.heap.size, 0, none⟩ vn).heap[r]? ≠ some (.cells c 5 f) ∧ (w8.setCell ⟨w.heap.size, 0, none⟩ vn).heap[r]? ≠ some (.cells c 34 f) := by
      intro r e c f
      cases e
      rw [hs9]
      exact ⟨fun h => (by cases h), fun h => (by cases h)⟩
    have := (h8.keptX (grownBy_set w8 w.heap.size 0 vn) f1).keptX (grownBy_set (w8.setCell ⟨w.heap.size, 0, none⟩ vn) (w.heap.size + 1) 0 (.int .i64 ((endL ((pre ++ [x]).map Rc.pair) : Nat) : Int))) f2
    rw [List.map_append, show List.map Rc.pair [x] = [(x.pos, x.held)] from rfl, heldL_snoc]
    rw [List.map_append, show List.map Rc.pair [x] = [(x.pos, x.held)] from rfl] at this
    exact this
  · rw [heap_setCell_same _ _ _ _ _ _ _ hs9]
    rfl
end Go.Proofs.Ytnhmhnejglpijaa
