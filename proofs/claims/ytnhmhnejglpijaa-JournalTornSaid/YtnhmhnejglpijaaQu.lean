/- journal: Places: the walk. -/
import Derived.Test.YtnhmhnejglpijaaQt
namespace Go.Proofs.Ytnhmhnejglpijaa
open Go.RowKit Go.Shelf
attribute [local go_sem] Oper.semAt_some
set_option maxRecDepth 100000
set_option linter.unusedSimpArgs false
set_option linter.unusedVariables false
theorem scan_calls (v : Value) (bs : List B8) (w : World) (hb : Bt w v bs) (hl : bs.length ≤ 1000000) :
    Calls Try.prog 46 #[v] w fun e w' => ∃ v', e = .returned (.tuple #[v', .int .i64 (endL (recAt bs 0) : Int)]) ∧ OwnRs (fun W v bs => Own8 W w.heap.size v bs) w' w.heap.size v' (heldL (recAt bs 0)) ∧ Below w.heap.size w w' :=
  callsIn_wide.1 (scanJ_in 3 (Nat.le_refl _) v bs w hb hl)
/-- what Places keeps between two rounds -/
structure PlI (w : World) (A : Option Addr) (n cap : Nat) (pre : List Rc) (W : World) : Prop where
  below : Below w.heap.size w W
  src : W.heap[w.heap.size]? = some (.cells #[.slice A n cap] 34 (0, 0))
  out : ∃ v, W.heap[w.heap.size + 1]? = some (.cells #[v] 71 (0, 0)) ∧ OwnIs W w.heap.size v (atL (pre.map Rc.pair))
theorem OwnIs.keptX {B : Nat} {w w' : World} {v : Value} {is : List Nat} (h : OwnIs w B v is) {row : Option Nat} (hg : w.grownBy w' row) (hr : ∀ r, row = some r → ∀ c f, w.heap[r]? ≠ some (.cells c 3 f)) : OwnIs w' B v is := by
  refine h.kept hg ?_
  cases hb : v.ownBlock with
  | none => exact .inl rfl
  | some b =>
    refine .inr fun e => ?_
    obtain ⟨c, hc⟩ := h.type b hb
    exact hr b e.symm c (0, 0) hc
theorem PlI.stays (w : World) (A : Option Addr) (n cap D : Nat) (hD : w.heap.size ≤ D) : Stays 150 D (PlI w A n cap) := by
  intro pre X B row h hg hr
  obtain ⟨v, hv, ho⟩ := h.out
  have key : ∀ r, row = some r → ∀ c t f, t ≠ 150 → X.heap[r]? ≠ some (.cells c t f) := by
    intro r e c t f ht hc
    obtain ⟨_, ⟨c', f', h'⟩ | ⟨o, h', ho'⟩⟩ := hr r e
    · rw [hc] at h'
      cases h'
      exact ht rfl
    · rw [hc] at h'
      cases h'
      cases ho'
  exact ⟨h.below.grown hg h.below.size (fun k e => Nat.le_trans hD (hr k e).1), grownBy_ne hg h.src (fun r e => key r e _ _ _ (by decide)), ⟨v, grownBy_ne hg hv (fun r e => key r e _ _ _ (by decide)), ho.keptX hg (fun r e c f => key r e c 3 f (by decide))⟩⟩
theorem pl_far {w B Y w8 : World} {A : Option Addr} {n cap : Nat} {pre : List Rc} {v : Value} (hI : PlI w A n cap pre B) (hv : B.heap[w.heap.size + 1]? = some (.cells #[v] 71 (0, 0))) (ho : OwnIs B w.heap.size v (atL (pre.map Rc.pair)))
    (hY : Below B.heap.size B Y) (hg : Y.grownBy w8 v.ownBlock) {k : Nat} {o : Obj} (hk : B.heap[k]? = some o) (hne : ∀ c, o ≠ .cells c 3 (0, 0)) : w8.heap[k]? = some o := by
  have h1 : Y.heap[k]? = some o := (hY.block k (lt_of_heap hk)).trans hk
  refine grownBy_ne hg h1 (fun r e hr => ?_)
  obtain ⟨c, hc⟩ := ho.type r e
  have := (hY.block r (lt_of_heap hc)).trans hc
  rw [hr] at this
  cases this
  exact hne c rfl
theorem pl_done {w B Y w8 : World} {A : Option Addr} {n cap : Nat} {pre : List Rc} {x : Rc} {v vn : Value} (hI : PlI w A n cap pre B) (hv : B.heap[w.heap.size + 1]? = some (.cells #[v] 71 (0, 0))) (ho : OwnIs B w.heap.size v (atL (pre.map Rc.pair)))
    (hY : Below B.heap.size B Y) (hg : Y.grownBy w8 v.ownBlock) (h8 : OwnIs w8 w.heap.size vn (atL (pre.map Rc.pair) ++ [x.pos])) :
    (w8.cell? ⟨w.heap.size + 1, 0, none⟩ = some v ∧ w8.frozen? ⟨w.heap.size + 1, 0, none⟩ = false ∧ (w8.setCell ⟨w.heap.size + 1, 0, none⟩ vn).cell? ⟨w.heap.size, 0, none⟩ = some (.slice A n cap)) ∧
    KeepsOthers B (w8.setCell ⟨w.heap.size + 1, 0, none⟩ vn) ∧ RcKp B (w8.setCell ⟨w.heap.size + 1, 0, none⟩ vn) ∧ PlI w A n cap (pre ++ [x]) (w8.setCell ⟨w.heap.size + 1, 0, none⟩ vn) := by
  have hb8 := pl_far hI hv ho hY hg hv (fun c e => by cases e)
  have hs8 := pl_far hI hv ho hY hg hI.src (fun c e => by cases e)
  have hb9 : (w8.setCell ⟨w.heap.size + 1, 0, none⟩ vn).heap[w.heap.size + 1]? = some (.cells #[vn] 71 (0, 0)) := by rw [heap_setCell_same _ _ _ _ _ _ _ hb8]; rfl
  have hs9 : (w8.setCell ⟨w.heap.size + 1, 0, none⟩ vn).heap[w.heap.size]? = some (.cells #[.slice A n cap] 34 (0, 0)) := (Below.heap_setCell _ _ _ _ (by simp)).trans hs8
  have hlow : Below w.heap.size w w8 := (hI.below.trans (hY.mono hI.below.size)).grown hg (by have := hY.size; have := hI.below.size; omega) (fun k e => (ho.lt k e).1)
  refine ⟨⟨cell_of_heap hb8, free_of_heap hb8, cell_of_heap hs9⟩, ?_, ⟨?_, ?_⟩, ⟨hlow.setCell (Nat.le_succ _) _, hs9, vn, hb9, ?_⟩⟩
  · have k1 : KeepsOthers B Y := KeepsOthers.of_grownBy (grown_of_below hY) (fun j o e => by cases e)
    have k2 : KeepsOthers Y w8 := KeepsOthers.of_grownBy hg (fun j o e hj => by
      obtain ⟨c, hc⟩ := ho.type j e
      have := (hY.block j (lt_of_heap hc)).trans hc
      rw [hj] at this
      cases this
      rfl)
    exact (k1.trans k2).trans (KeepsOthers.setCell _ _ _)
  · have := hY.size
    have := hg.size
    simp only [World.size_setCell]
    omega
  · intro b c t f hb ht
    have h1 := pl_far hI hv ho hY hg hb (fun c' e => by cases e; rcases ht with h | h <;> cases h)
    have n1 : b ≠ w.heap.size + 1 := fun e => by
      subst e
      rw [hv] at hb
      cases hb
      rcases ht with h | h <;> cases h
    exact (Below.heap_setCell _ _ _ _ n1).trans h1
  · have f1 : ∀ r, some (w.heap.size + 1) = some r → ∀ c f, w8.heap[r]? ≠ some (.cells c 3 f) := by
      intro r e c f
      cases e
      rw [hb8]
      exact fun h => (by cases h)
    have := h8.keptX (grownBy_set w8 (w.heap.size + 1) 0 vn) f1
    rw [List.map_append, show List.map Rc.pair [x] = [(x.pos, x.held)] from rfl, atL_snoc]
    exact this
set_option maxHeartbeats 4000000 in
theorem places_in (n : Nat) (hn : 3 ≤ n) (v : Value) (bs : List B8) (w : World) (hb : Bt w v bs) (hl : bs.length ≤ 1000000) :
    CallsIn Fence.wide n Try.prog 49 #[v] w fun e w' => ∃ v', e = .returned v' ∧ OwnIs w' w.heap.size v' (atL (recAt bs 0)) ∧ Below w.heap.size w w' := by
  obtain ⟨A, cap, rfl, hc1, hc2, _⟩ := id hb.1
  have HB := Lib.hid hb
  have h1 : 1 ≤ n := by omega
  clear hb
  refine callsIn_of_wp_marks Try.func49 rfl trivial ?_ rfl
  simp only [Try.ntmps49, List.size_toArray, List.length_cons, List.length_nil, Nat.reduceAdd, Nat.reduceSub, Array.replicate_succ, Array.replicate_zero, List.push_toArray, List.append_toArray, List.nil_append, List.cons_append]
  gi_wp2_with (refine ⟨trivial, ?_⟩; gi_at_call 87; refine (records_in _ _ _ _ _).mono ?_; rintro e w' ⟨rfl, rfl⟩)
  refine wpInW_scope ?_
  refine wpIn_seq ?_
  gi_wp2
  refine wpIn_label ?_
  gi_wp2_with (refine ⟨trivial, ?_⟩; gi_at_call 87; refine (records_in _ _ _ _ _).mono ?_; rintro e w' ⟨rfl, rfl⟩)
  obtain ⟨w3, hw3⟩ : ∃ w3, ((w.alloc (.cells #[.slice A bs.length cap] 34)).alloc (.cells #[.slice none 0 0] 71)).alloc (.cells #[.slice A bs.length cap] 34) = w3 := ⟨_, rfl⟩
  have hb3 : Below w.heap.size w w3 := by rw [← hw3]; exact below_al (below_al (below_al (Below.refl _ _) _) _) _
  have hI0 : PlI w A bs.length cap [] w3 := by
    refine ⟨hb3, ?_, ⟨.slice none 0 0, ?_, OwnIs.nil _ _⟩⟩
    · rw [← hw3]
      exact new_next _ _ (new_next _ _ (new_here w _))
    · rw [← hw3]
      have := new_here (w.alloc (.cells #[.slice A bs.length cap] 34)) (.cells #[.slice none 0 0] 71)
      rw [World.size_alloc] at this
      exact new_next _ _ this
  have hB3 : w3.heap[w.heap.size + 2]? = some (.cells #[.slice A bs.length cap] 34 (0, 0)) := by
    rw [← hw3]
    have := new_here ((w.alloc (.cells #[.slice A bs.length cap] 34)).alloc (.cells #[.slice none 0 0] 71)) (.cells #[.slice A bs.length cap] 34)
    rw [World.size_alloc, World.size_alloc] at this
    exact this
  rw [hw3]
  refine range_ok h1 rfl (fun _ _ => rfl) (recs_seq (n - 1) (by omega) (w.heap.size + 2) A cap bs hl w3 hB3 (HB.out.below hb3)) RcKp.trans RcKp.put (fun pre x W l o o' h hl ho => h.put l o o' hl ho) (fun x => rfl)
    (PlI w A bs.length cap) (PlI.stays w _ _ _ _ hb3.size) hI0
    (fun x => { tmps := #[.slice A bs.length cap, .pointer (some ⟨w.heap.size, 0, none⟩), .slice none 0 0, .pointer (some ⟨w.heap.size + 1, 0, none⟩), .int .i64 (x.pos : Int), .slice A bs.length cap,
      .func (.func 114) #[] #[.pointer (some ⟨w.heap.size + 1 + 1, 0, none⟩)], .int .i64 (x.pos : Int), .agg #[.slice x.addr x.held.length x.cap, .int .i64 ((x.held.length : Int) + 8)], undef, undef, undef, undef, undef, undef, undef, undef, undef], defers := [] }) ?_ ?_ ?_
  · intro l x W K hK
    have e : ((#[7, 8] : Array Tmp).zip x.vals).foldl (fun t (p, v) => t.setIfInBounds p v) #[.slice A bs.length cap, .pointer (some ⟨w.heap.size, 0, none⟩), .slice none 0 0, .pointer (some ⟨w.heap.size + 1, 0, none⟩), undef, .slice A bs.length cap,
      .func (.func 114) #[] #[.pointer (some ⟨w.heap.size + 1 + 1, 0, none⟩)], undef, undef, undef, undef, undef, undef, undef, undef, undef, undef, undef] = #[.slice A bs.length cap, .pointer (some ⟨w.heap.size, 0, none⟩), .slice none 0 0, .pointer (some ⟨w.heap.size + 1, 0, none⟩), undef, .slice A bs.length cap,
      .func (.func 114) #[] #[.pointer (some ⟨w.heap.size + 1 + 1, 0, none⟩)], .int .i64 (x.pos : Int), .agg #[.slice x.addr x.held.length x.cap, .int .i64 ((x.held.length : Int) + 8)], undef, undef, undef, undef, undef, undef, undef, undef, undef] := by kernel_rfl
    rw [e]
    gi_wp2
    exact hK
  · intro l pre x B hI hok
    obtain ⟨v, hv, ho⟩ := hI.out
    have hpl : (atL (pre.map Rc.pair)).length ≤ 1000000 := by
      have := hok.2.2.few
      rw [atL_length]
      simp only [List.map_append, List.length_append] at this
      omega
    have hlt : x.pos < bs.length := by have := hok.2.1; omega
    have x1 : B.cell? ⟨w.heap.size + 1, 0, none⟩ = some v := cell_of_heap hv
    have HBY : Hid (w.heap.size ≤ (B.alloc (.cells #[.int .i64 (x.pos : Int)] 3)).heap.size) := Lib.hid (by have := hI.below.size; rw [World.size_alloc]; omega)
    have HOY : Hid (OwnIs (B.alloc (.cells #[.int .i64 (x.pos : Int)] 3)) w.heap.size v (atL (pre.map Rc.pair))) := Lib.hid (ho.below (below_al (Below.refl _ _) _))
    have HI := Lib.hid hI
    have HV := Lib.hid hv
    have HO := Lib.hid ho
    have HPL := Lib.hid hpl
    clear hI hok hv ho hpl
    gi_wp2_with (gi_at_builtin; refine list_round (by rintro ⟨_, _, h⟩; exact h) _ _ _ (by intro o ho c; simp only [List.mem_cons, List.not_mem_nil, or_false] at ho; rcases ho with rfl | rfl <;> (intro h; cases h)) ?_; refine wpList_appI rfl (.tmp 9) (.tmp 11) rfl w.heap.size v _ rfl HOY.out B.heap.size x.pos 3 (0, 0) rfl (new_here B _) HPL.out HBY.out ?_; intro g cp w8 h8 hg8 hlt8; have hDN := Lib.hid (pl_done HI.out HV.out HO.out (below_al (Below.refl _ _) _) hg8 h8); have z1 := hDN.out.1.1; have z2 := hDN.out.1.2.1; have z3 := hDN.out.1.2.2; clear h8 hg8 hlt8)
    go_wp2
    gi_wp2
    exact hDN.out.2
  · intro D xs W hD hxs hI hd
    obtain ⟨v', hv, ho⟩ := hI.out
    rw [hxs] at ho
    have HI := Lib.hid hI
    have HO := Lib.hid ho
    have HD := Lib.hid hd
    have c0 : W.cell? ⟨w.heap.size + 1, 0, none⟩ = some v' := cell_of_heap hv
    clear hI ho hv hd
    gi_wp2
    simp only [Exit.noGoto_normal, Exit.noGoto_ret]
    refine ⟨by simp, .inl ⟨_, _, rfl, run_takeDeferred (w := W) HD.out, ?_⟩⟩
    refine ⟨v', by simp [results, Try.results49, go_sem], v', rfl, ?_, ?_⟩
    · refine HO.out.keptX (grownBy_putObj' W D _) (fun r e c f => ?_)
      cases e
      rw [HD.out]
      exact fun h => (by cases h)
    · exact HI.out.below.trans (belowK_b (w := w) (Nat.le_refl _) W D _ _ (by have := hb3.size; omega) HD.out rfl rfl)
end Go.Proofs.Ytnhmhnejglpijaa
