/- law25: NetBrings: what the walk keeps. -/
import Derived.Test.YtnhmhnejglpijaaPa
import Derived.Test.YtnhmhnejglpijaaPc
namespace Go.Proofs.Ytnhmhnejglpijaa
open Go.RowKit
set_option maxRecDepth 100000
set_option linter.unusedSimpArgs false
set_option linter.unusedVariables false
def acAt (l : List Ac) (j : Nat) : Ac := l.getD j default
/-- The slice v holds acts. -/
def Acs (w : World) (v : Value) (l : List Ac) : Prop :=
  ∃ A cap, v = .slice A l.length cap ∧ l.length ≤ cap ∧ cap ≤ maxLen ∧ (0 < l.length → ∃ b off, A = some ⟨b, off, none⟩ ∧ ∀ j, j < l.length → ∃ A' c',
    w.cell? ⟨b, off + j * 7, none⟩ = some (.bool (acAt l j).sends) ∧ w.cell? ⟨b, off + j * 7 + 1, none⟩ = some (.int .i64 (acAt l j).dest) ∧ w.cell? ⟨b, off + j * 7 + 2, none⟩ = some (.slice A' (acAt l j).bytes.length c') ∧
    w.cell? ⟨b, off + j * 7 + 3, none⟩ = some (.int .i64 (acAt l j).kind) ∧ w.cell? ⟨b, off + j * 7 + 4, none⟩ = some (.int .i64 (acAt l j).at_) ∧ w.cell? ⟨b, off + j * 7 + 5, none⟩ = some (.int .i64 (acAt l j).bit) ∧
    w.cell? ⟨b, off + j * 7 + 6, none⟩ = some (.int .u32 (nb (acAt l j).mask)) ∧ Bys w (.slice A' (acAt l j).bytes.length c') (acAt l j).bytes)
theorem Acs.below {w w' : World} {v : Value} {l : List Ac} (h : Acs w v l) (hb : Below w.heap.size w w') : Acs w' v l := by
  obtain ⟨A, cap, e, h1, h2, h3⟩ := h
  refine ⟨A, cap, e, h1, h2, fun h0 => ?_⟩
  obtain ⟨b, off, eA, hc⟩ := h3 h0
  refine ⟨b, off, eA, fun j hj => ?_⟩
  obtain ⟨A', c', k0, k1, k2, k3, k4, k5, k6, k7⟩ := hc j hj
  have f : ∀ {o : Nat} {u : Value}, w.cell? ⟨b, o, none⟩ = some u → w'.cell? ⟨b, o, none⟩ = some u := fun k => (hb.cell (World.block_lt_of_cell? w _ k)).trans k
  exact ⟨A', c', f k0, f k1, f k2, f k3, f k4, f k5, f k6, k7.below hb⟩
theorem pcs_one {W : World} {g : Nat} {site : Int} {bv : Value} {sp : Bool} {bs : List B8} {T : TypeId} {f : Nat × Nat} (h : W.heap[g]? = some (.cells #[.int .i64 site, bv, .bool sp] T f)) (hb : Bys W bv bs) : Pcs W (.slice (some ⟨g, 0, none⟩) 1 1) [⟨site, bs, sp⟩] := by
  obtain ⟨A, c, rfl, hrest⟩ := id hb
  refine ⟨some ⟨g, 0, none⟩, 1, rfl, Nat.le_refl _, by simp [maxLen], fun _ => ⟨g, 0, rfl, fun j hj => ?_⟩⟩
  obtain rfl : j = 0 := by simpa using hj
  exact ⟨A, c, cell_of_heap h, cell_of_heap h, cell_of_heap h, hb⟩
theorem ne_type {w : World} {g t T : Nat} {c : Array Value} {f : Nat × Nat} {v : Value} (hh : w.heap[g]? = some (.cells c T f)) (hT : T ≠ t) (hv : ∀ b, v.ownBlock = some b → ∃ c' f', w.heap[b]? = some (.cells c' t f')) : v.ownBlock = none ∨ v.ownBlock ≠ some g := by
  cases h : v.ownBlock with
  | none => exact .inl rfl
  | some k =>
    refine .inr fun e => ?_
    cases e
    obtain ⟨c', f', hc⟩ := hv g h
    rw [hh] at hc
    cases hc
    exact hT rfl
theorem OwnPs.set_far {w : World} {B g j T : Nat} {c : Array Value} {f : Nat × Nat} {v y : Value} {ps : List Pc} (h : OwnPs w B v ps) (hh : w.heap[g]? = some (.cells c T f)) (h5 : T ≠ 5) (h36 : T ≠ 36) : OwnPs (w.setCell ⟨g, j, none⟩ y) B v ps :=
  h.kept (grownBy_set w g j y) (noBytes_of hh h5) (ne_type hh h36 (fun b hb => (h.type b hb).2))
theorem OwnRs.set_far {P : World → Value → List B8 → Prop} (hE : El P) {w : World} {B g j T : Nat} {c : Array Value} {f : Nat × Nat} {v y : Value} {rows : List (List B8)} (h : OwnRs P w B v rows) (hh : w.heap[g]? = some (.cells c T f)) (h5 : T ≠ 5) (h34 : T ≠ 34) : OwnRs P (w.setCell ⟨g, j, none⟩ y) B v rows :=
  h.kept hE (grownBy_set w g j y) (noBytes_of hh h5) (ne_type hh h34 (fun b hb => by obtain ⟨_, c, hc⟩ := h.type b hb; exact ⟨c, _, hc⟩))
/-- what the loop keeps -/
structure BrR (w : World) (nB k : Nat) (s : BS) (An : Option Addr) (cn : Nat) (vs : Value) (wr : World) : Prop where
  below : Below w.heap.size w wr
  nb : w.heap.size ≤ nB
  box : wr.heap[nB]? = some (.cells #[.slice An s.ps.length cn, .int .u64 s.lost] 27 (0, 0))
  own : OwnPs wr w.heap.size (.slice An s.ps.length cn) s.ps
  rows : OwnRs (fun w' v bs => Own8 w' w.heap.size v bs) wr w.heap.size vs s.sent
  inv : BInv s k
theorem BrR.more {w : World} {nB k : Nat} {s : BS} {An : Option Addr} {cn : Nat} {vs : Value} {X Y : World} (h : BrR w nB k s An cn vs X) (hb : Below X.heap.size X Y) : BrR w nB k s An cn vs Y :=
  ⟨below_tr h.below hb, h.nb, (hb.block _ (lt_of_heap h.box)).trans h.box, h.own.below hb, h.rows.below (el_own _) hb, h.inv⟩
theorem BrR.put {w : World} {nB k' : Nat} {s' : BS} {u0 u1 : Value} {A' : Option Addr} {c' : Nat} {vs' : Value} {X : World} {L' : Int} {n' : Nat} (hbe : Below w.heap.size w X) (hnb : w.heap.size ≤ nB) (hb : X.heap[nB]? = some (.cells #[u0, u1] 27 (0, 0))) (hn : n' = s'.ps.length) (hL : L' = s'.lost) (ho : OwnPs X w.heap.size (.slice A' n' c') s'.ps)
    (hr : OwnRs (fun w' v bs => Own8 w' w.heap.size v bs) X w.heap.size vs' s'.sent) (hi : BInv s' k') :
    BrR w nB k' s' A' c' vs' ((X.setCell ⟨nB, 0, none⟩ (.slice A' n' c')).setCell ⟨nB, 1, none⟩ (.int .u64 L')) := by
  subst hn hL
  have h1 := heap_setCell_same X nB 0 (.slice A' s'.ps.length c') _ _ _ hb
  have h2 := heap_setCell_same _ nB 1 (.int .u64 s'.lost) _ _ _ h1
  refine ⟨(hbe.setCell (p := ⟨nB, 0, none⟩) hnb _).setCell (p := ⟨nB, 1, none⟩) hnb _, hnb, by simpa using h2, (ho.set_far hb (by decide) (by decide)).set_far h1 (by decide) (by decide), ((hr.set_far (el_own _) hb (by decide) (by decide)).set_far (el_own _) h1 (by decide) (by decide)), hi⟩
theorem BrR.next {w : World} {nB k : Nat} {s : BS} {An : Option Addr} {cn : Nat} {vs : Value} {X : World} (h : BrR w nB k s An cn vs X) : BrR w nB (k + 1) s An cn vs X := ⟨h.below, h.nb, h.box, h.own, h.rows, h.inv.next⟩
/-- a row more was appended ahead of the store -/
theorem BrR.grown {w : World} {nB k : Nat} {s : BS} {An : Option Addr} {cn : Nat} {vs : Value} {X Y : World} (h : BrR w nB k s An cn vs X) (hg : X.grownBy Y vs.ownBlock) :
    Y.heap[nB]? = some (.cells #[.slice An s.ps.length cn, .int .u64 s.lost] 27 (0, 0)) ∧ Below w.heap.size w Y ∧ (∀ v ps, OwnPs X w.heap.size v ps → OwnPs Y w.heap.size v ps) := by
  have hnb := h.rows.noBytes
  have ht := h.rows.type
  refine ⟨?_, h.below.grown hg (by have := h.below.size; exact this) (fun b e => (ht b e).1), fun v ps ho => ho.kept hg hnb ?_⟩
  · rw [hg.block nB (lt_of_heap h.box) (fun e => ?_)]
    · exact h.box
    · obtain ⟨_, c, hc⟩ := ht nB e.symm
      rw [h.box] at hc
      cases hc
  · cases hv : v.ownBlock with
    | none => exact .inl rfl
    | some b =>
      refine .inr fun e => ?_
      obtain ⟨_, c, f, hc⟩ := ho.type b hv
      obtain ⟨_, c', hc'⟩ := ht b e.symm
      rw [hc] at hc'
      cases hc'
/-- the cells that the act's second half reads -/
theorem brdo_facts {w9 : World} {nB aB : Nat} {u0 u1 v L p0 p1 p2 : Value} {ca : Array Value} (hn : w9.heap[nB]? = some (.cells #[u0, u1] 27 (0, 0))) (ha : w9.heap[aB]? = some (.cells ca 94 (0, 0))) :
    ∀ W, (w9.alloc (.cells #[v, L] 27)).alloc (.cells #[p0, p1, p2] 36) = W →
      (W.cell? ⟨nB, 0, none⟩ = some u0 ∧ W.cell? ⟨nB, 1, none⟩ = some u1 ∧ W.frozen? ⟨nB, 0, none⟩ = false ∧ W.frozen? ⟨nB, 1, none⟩ = false ∧ W.cell? ⟨w9.heap.size, 0, none⟩ = some v ∧ W.cell? ⟨w9.heap.size, 1, none⟩ = some L) ∧
      Below w9.heap.size w9 W ∧ W.heap[nB]? = some (.cells #[u0, u1] 27 (0, 0)) ∧
      ((W.setCell ⟨nB, 0, none⟩ v).setCell ⟨nB, 1, none⟩ L).heap[aB]? = some (.cells ca 94 (0, 0)) ∧ ((W.setCell ⟨nB, 0, none⟩ v).setCell ⟨nB, 1, none⟩ L).heap[nB]? = some (.cells #[v, L] 27 (0, 0)) ∧
      ((W.setCell ⟨nB, 0, none⟩ v).setCell ⟨nB, 1, none⟩ L).heap[w9.heap.size + 1]? = some (.cells #[p0, p1, p2] 36 (0, 0)) := by
  rintro W rfl
  have hlt := lt_of_heap hn
  have g0 := new_next _ (.cells #[p0, p1, p2] 36) (new_next _ (.cells #[v, L] 27) hn)
  have g1 := new_next _ (.cells #[p0, p1, p2] 36) (new_next _ (.cells #[v, L] 27) ha)
  have g2 := new_next _ (.cells #[p0, p1, p2] 36) (new_here w9 (.cells #[v, L] 27))
  have g3 : ((w9.alloc (.cells #[v, L] 27)).alloc (.cells #[p0, p1, p2] 36)).heap[w9.heap.size + 1]? = some (.cells #[p0, p1, p2] 36 (0, 0)) := by
    have := new_here (w9.alloc (.cells #[v, L] 27)) (.cells #[p0, p1, p2] 36)
    rwa [World.size_alloc] at this
  have hne : aB ≠ nB := by
    rintro rfl
    rw [hn] at ha
    cases ha
  have h1 := heap_setCell_same _ nB 0 v _ _ _ g0
  have h2 := heap_setCell_same _ nB 1 L _ _ _ h1
  have far : ∀ {W : World} {b : Nat} {o : Obj}, b ≠ nB → W.heap[b]? = some o → ((W.setCell ⟨nB, 0, none⟩ v).setCell ⟨nB, 1, none⟩ L).heap[b]? = some o := fun hb h => by
    have k1 := ((grownBy_set _ nB 0 v).block _ (lt_of_heap h) (fun e => hb (by cases e; rfl))).trans h
    exact ((grownBy_set _ nB 1 L).block _ (lt_of_heap k1) (fun e => hb (by cases e; rfl))).trans k1
  exact ⟨⟨cell_of_heap g0, cell_of_heap g0, free_of_heap g0, free_of_heap g0, cell_of_heap g2, cell_of_heap g2⟩, below_al (below_al (Below.refl _ _) _) _, g0, far hne g1, by simpa using h2, far (by omega) g3⟩
end Go.Proofs.Ytnhmhnejglpijaa
