/- law25: wakes: the walk. -/
import Derived.Test.YtnhmhnejglpijaaNx
namespace Go.Proofs.Ytnhmhnejglpijaa
open Go.RowKit
set_option maxRecDepth 100000
set_option linter.unusedSimpArgs false
set_option linter.unusedVariables false
deriving instance DecidableEq for Pc
deriving instance DecidableEq for RS
def wkA : List Pc := [⟨0, [1#8, 2#8], false⟩, ⟨4, [3#8], false⟩]
def wkB : List Pc := [⟨0, [0#8, 2#8], true⟩, ⟨4, [3#8], false⟩]
def wkC : List Pc := [⟨0, [0#8, 2#8], true⟩, ⟨4, [3#8], false⟩, ⟨0, [0#8, 2#8], true⟩]
theorem wk_send : sendN [] 0 wkA = (0, wkA, 0) := by decide
theorem wk_first : firstN wkA 0 4 = (1, true) := by decide
theorem wk_do1 : doN wkA 0 4 0 0 1#32 = (0, wkB, 0, ⟨0, [], false⟩) := by decide
theorem wk_do2 : doN wkB 0 4 0 0 1#32 = (5, [], 0, ⟨0, [], false⟩) := by decide
theorem wk_do3 : doN wkB 0 3 0 0 0#32 = (0, wkC, 0, ⟨0, [], false⟩) := by decide
theorem wk_do4 : doN wkC 0 1 2 0 0#32 = (0, wkB, 0, ⟨0, [0#8, 2#8], true⟩) := by decide
theorem wk_do5 : doN wkC 0 2 9 0 0#32 = (4, [], 0, ⟨0, [], false⟩) := by decide
theorem wk_empty : emptyN wkC 0 = (0, ⟨[], 0, wkC, 0⟩) := by decide
/-- the net n of wakes, in its box b1 -/
structure NS (w : World) (b1 : Nat) (A : Option Addr) (c : Nat) (ps : List Pc) (W : World) : Prop where
  box : W.heap[b1]? = some (.cells #[.slice A ps.length c, .int .u64 0] 27 (0, 0))
  own : OwnPs W w.heap.size (.slice A ps.length c) ps
  below : Below w.heap.size w W
  le : w.heap.size ≤ b1
theorem NS.keep {w W W' : World} {b1 : Nat} {A : Option Addr} {c : Nat} {ps : List Pc} (h : NS w b1 A c ps W) (hb : Below W.heap.size W W') : NS w b1 A c ps W' :=
  ⟨(hb.block _ (lt_of_heap h.box)).trans h.box, h.own.below hb, below_tr h.below hb, h.le⟩
theorem NS.cells {w W : World} {b1 : Nat} {A : Option Addr} {c : Nat} {ps : List Pc} (h : NS w b1 A c ps W) : W.cell? ⟨b1, 0, none⟩ = some (.slice A ps.length c) ∧ W.cell? ⟨b1, 1, none⟩ = some (.int .u64 0) ∧ W.frozen? ⟨b1, 0, none⟩ = false ∧ W.frozen? ⟨b1, 1, none⟩ = false :=
  ⟨cell_of_heap h.box, cell_of_heap h.box, free_of_heap h.box, free_of_heap h.box⟩
abbrev z36 : Obj := .cells #[.int .i64 0, .slice none 0 0, .bool false] 36
theorem do_facts {w W : World} {b1 : Nat} {A : Option Addr} {c : Nat} {ps : List Pc} (h : NS w b1 A c ps W) :
    (W.alloc (.cells #[.int .i64 0, .slice none 0 0, .bool false] 36)).cell? ⟨b1, 0, none⟩ = some (.slice A ps.length c) ∧ (W.alloc (.cells #[.int .i64 0, .slice none 0 0, .bool false] 36)).cell? ⟨b1, 1, none⟩ = some (.int .u64 0) ∧
    (W.alloc (.cells #[.int .i64 0, .slice none 0 0, .bool false] 36)).frozen? ⟨b1, 0, none⟩ = false ∧ (W.alloc (.cells #[.int .i64 0, .slice none 0 0, .bool false] 36)).frozen? ⟨b1, 1, none⟩ = false ∧ (¬ b1 = W.heap.size) ∧ ¬ W.heap.size = b1 := by
  obtain ⟨x0, x1, x2, x3⟩ := (h.keep (below_al (Below.refl _ _) (.cells #[.int .i64 0, .slice none 0 0, .bool false] 36))).cells
  have := lt_of_heap h.box
  exact ⟨x0, x1, x2, x3, by omega, by omega⟩
theorem own_set36 {W : World} {B b k T : Nat} {x : Value} {v : Value} {ps : List Pc} {c : Array Value} {f : Nat × Nat} (h : OwnPs W B v ps) (hb : W.heap[b]? = some (.cells c T f)) (h5 : T ≠ 5) (hne : ∀ j, v.ownBlock = some j → j ≠ b) : OwnPs (W.setCell ⟨b, k, none⟩ x) B v ps := by
  refine h.kept (grownBy_set W b k x) (noBytes_of hb h5) ?_
  cases hv : v.ownBlock with
  | none => exact .inl rfl
  | some j =>
    refine .inr fun e => ?_
    cases e
    exact hne _ hv rfl
theorem do_fin {w W : World} {b1 : Nat} {A : Option Addr} {c : Nat} {ps : List Pc} (h : NS w b1 A c ps W) {B : Nat} {A' : Option Addr} {c' : Nat} {ps' : List Pc} (h1 : b1 < B) (own : OwnPs W B (.slice A' ps'.length c') ps') (hB : w.heap.size ≤ B) (y0 y1 y2 : Value) :
    NS w b1 A' c' ps' ((((((W.alloc (.cells #[.int .i64 0, .slice none 0 0, .bool false] 36)).setCell ⟨b1, 0, none⟩ (.slice A' ps'.length c')).setCell ⟨b1, 1, none⟩ (.int .u64 0)).setCell ⟨W.heap.size, 0, none⟩ y0).setCell ⟨W.heap.size, 1, none⟩ y1).setCell ⟨W.heap.size, 2, none⟩ y2) := by
  have hl := lt_of_heap h.box
  have k1 := (h.keep (below_al (Below.refl _ _) (.cells #[.int .i64 0, .slice none 0 0, .bool false] 36)))
  have g0 := new_here W (.cells #[.int .i64 0, .slice none 0 0, .bool false] 36)
  have hlt := own.lt
  have o1 := own.below (below_al (Below.refl _ _) (.cells #[.int .i64 0, .slice none 0 0, .bool false] 36))
  have hne : b1 ≠ W.heap.size := by omega
  have hs : w.heap.size ≤ W.heap.size := h.below.size
  have a1 := heap_setCell_same _ b1 0 (.slice A' ps'.length c') _ _ _ k1.box
  have a2 := heap_setCell_same _ b1 1 (.int .u64 0) _ _ _ a1
  have c1 := heap_set_other (k := 0) (v := .slice A' ps'.length c') g0 hne.symm
  have c2 := heap_set_other (k := 1) (v := .int .u64 0) c1 hne.symm
  have c3 := heap_setCell_same _ W.heap.size 0 y0 _ _ _ c2
  have c4 := heap_setCell_same _ W.heap.size 1 y1 _ _ _ c3
  simp only [List.setIfInBounds_toArray, List.set_cons_zero, List.set_cons_succ] at a1 a2 c3 c4
  have hn1 : ∀ j, (Value.slice A' ps'.length c').ownBlock = some j → j ≠ b1 := fun j e => by have := (hlt j e).1; omega
  have hn2 : ∀ j, (Value.slice A' ps'.length c').ownBlock = some j → j ≠ W.heap.size := fun j e => by have := (hlt j e).2; omega
  have p1 := own_set36 (k := 0) (x := .slice A' ps'.length c') o1 k1.box (by decide) hn1
  have p2 := own_set36 (k := 1) (x := .int .u64 0) p1 a1 (by decide) hn1
  have p3 := own_set36 (k := 0) (x := y0) p2 c2 (by decide) hn2
  have p4 := own_set36 (k := 1) (x := y1) p3 c3 (by decide) hn2
  have p5 := own_set36 (k := 2) (x := y2) p4 c4 (by decide) hn2
  refine ⟨heap_set_other (heap_set_other (heap_set_other a2 hne) hne) hne, p5.base hB, ?_, h.le⟩
  exact (((((k1.below.setCell (p := ⟨b1, 0, none⟩) h.le _).setCell (p := ⟨b1, 1, none⟩) h.le _).setCell (p := ⟨W.heap.size, 0, none⟩) hs _).setCell (p := ⟨W.heap.size, 1, none⟩) hs _).setCell (p := ⟨W.heap.size, 2, none⟩) hs _)
theorem bys_lit {w : World} {b n : Nat} {bs : List B8} {c : Array Value} {T : TypeId} {f : Nat × Nat} (hn : bs.length = n) (hn2 : n ≤ 100) (h : w.heap[b]? = some (.cells c T f)) (hc : ∀ j, j < n → c[j]? = some (.int .u8 (bn (byteAt bs j)))) : Bys w (.slice (some ⟨b, 0, none⟩) n n) bs := by
  subst hn
  refine ⟨some ⟨b, 0, none⟩, bs.length, rfl, Nat.le_refl _, by unfold maxLen; omega, fun e => (by cases e), fun _ => ⟨b, 0, rfl, fun j hj => ?_⟩⟩
  rw [Nat.zero_add, cell_of_heap h, hc j hj]
theorem wk_pcs (w1 : World) : Pcs (((w1.alloc (.cells #[.int .u8 1, .int .u8 2] 5)).alloc (.cells #[.int .u8 3] 5)).alloc (.cells #[.int .i64 0, .slice (some ⟨w1.heap.size, 0, none⟩) 2 2, .bool false, .int .i64 4, .slice (some ⟨w1.heap.size + 1, 0, none⟩) 1 1, .bool false] 36)) (.slice (some ⟨w1.heap.size + 1 + 1, 0, none⟩) 2 2) wkA := by
  obtain ⟨g0, g1, g2⟩ := new_three w1 (.cells #[.int .u8 1, .int .u8 2] 5) (.cells #[.int .u8 3] 5) (.cells #[.int .i64 0, .slice (some ⟨w1.heap.size, 0, none⟩) 2 2, .bool false, .int .i64 4, .slice (some ⟨w1.heap.size + 1, 0, none⟩) 1 1, .bool false] 36)
  refine ⟨some ⟨w1.heap.size + 1 + 1, 0, none⟩, 2, rfl, Nat.le_refl _, by unfold maxLen; omega, fun _ => ⟨w1.heap.size + 1 + 1, 0, rfl, fun j hj => ?_⟩⟩
  have hj2 : j < 2 := hj
  match j, hj2 with
  | 0, _ => exact ⟨some ⟨w1.heap.size, 0, none⟩, 2, cell_of_heap g2, cell_of_heap g2, cell_of_heap g2, bys_lit rfl (by decide) g0 (fun j hj => match j, hj with | 0, _ => rfl | 1, _ => rfl)⟩
  | 1, _ => exact ⟨some ⟨w1.heap.size + 1, 0, none⟩, 1, cell_of_heap g2, cell_of_heap g2, cell_of_heap g2, bys_lit rfl (by decide) g1 (fun j hj => match j, hj with | 0, _ => rfl)⟩
theorem pcs_nil (w : World) : Pcs w (.slice none 0 0) [] := ⟨none, 0, rfl, Nat.le_refl _, by unfold maxLen; omega, fun h => absurd h (by decide)⟩
theorem do_lit (vp : Value) (ps : List Pc) (kind at_ bit mI : Int) (m : W32) (hm : nb m = mI) (w : World) (r : Int × (List Pc × Int × Pc)) (hr : doN ps 0 kind at_ bit m = r) (hp : Pcs w vp ps) :
    Calls Try.prog 23 #[.agg #[vp, .int .u64 0], .agg #[.int .i64 kind, .int .i64 at_, .int .i64 bit, .int .u32 mI]] w (DoRes w r) := by
  subst hm hr
  exact netdo_calls vp ps 0 kind at_ bit m w hp (Int.le_refl _)
/-- what the fourth Do left, in its boxes -/
structure GS (b : Nat) (A : Option Addr) (c : Nat) (A' : Option Addr) (c' : Nat) (W : World) : Prop where
  b12 : W.heap[b]? = some (.cells #[.slice A wkB.length c, .int .u64 0] 27 (0, 0))
  b13 : W.heap[b + 1]? = some (.cells #[.int .i64 0, .slice A' 2 c', .bool true] 36 (0, 0))
  bys : Bys W (.slice A' 2 c') [0#8, 2#8]
theorem GS.keep {b : Nat} {A : Option Addr} {c : Nat} {A' : Option Addr} {c' : Nat} {W W' : World} (h : GS b A c A' c' W) (hb : Below W.heap.size W W') : GS b A c A' c' W' :=
  ⟨(hb.block _ (lt_of_heap h.b12)).trans h.b12, (hb.block _ (lt_of_heap h.b13)).trans h.b13, h.bys.below hb⟩
theorem GS.cells {b : Nat} {A : Option Addr} {c : Nat} {A' : Option Addr} {c' : Nat} {W : World} (h : GS b A c A' c' W) : W.cell? ⟨b, 0, none⟩ = some (.slice A 2 c) ∧ W.cell? ⟨b + 1, 1, none⟩ = some (.slice A' 2 c') ∧ W.cell? ⟨b + 1, 2, none⟩ = some (.bool true) :=
  ⟨cell_of_heap h.b12, cell_of_heap h.b13, cell_of_heap h.b13⟩
theorem gs_new {W : World} {B : Nat} {A : Option Addr} {c : Nat} {A' : Option Addr} {c' : Nat} (h8 : Own8 W B (.slice A' [0#8, 2#8].length c') [0#8, 2#8]) : GS W.heap.size A c A' c' ((W.alloc (.cells #[.slice A wkB.length c, .int .u64 0] 27)).alloc (.cells #[.int .i64 0, .slice A' 2 c', .bool true] 36)) := by
  refine ⟨new_next _ _ (new_here W _), ?_, (h8.bys).below (below_al (below_al (Below.refl _ _) _) _)⟩
  have := new_here (W.alloc (.cells #[.slice A wkB.length c, .int .u64 0] 27)) (.cells #[.int .i64 0, .slice A' 2 c', .bool true] 36)
  rwa [World.size_alloc] at this
theorem wk_lit : ∀ j, j < 2 → (#[Value.int .u8 0, .int .u8 2] : Array Value)[j]? = some (.int .u8 (bn (byteAt [0#8, 2#8] j))) := fun j hj => match j, hj with | 0, _ => rfl | 1, _ => rfl
theorem nb0 : nb 0#32 = 0 := by decide
theorem nb1 : nb 1#32 = 1 := by decide
set_option maxHeartbeats 4000000 in
theorem wakes_calls (w : World) : Calls Try.prog 11 #[] w fun e w' => e = .returned (.bool true) ∧ Below w.heap.size w w' := by
  go_enter Try.func11, Try.ntmps11
  go_wp2_with (first
    | (go_at_call 14; (with_reducible refine (new_calls _).mono ?_); rintro e w1 ⟨rfl, hb1⟩)
    | (go_at_call 13; (with_reducible refine (sendnet_calls _ _ [] wkA 0 _ (pcs_nil _) (wk_pcs w1) (by decide)).mono ?_); (rw [wk_send]); rintro e w2 ⟨A2, c2, rfl, ho2, hb2⟩; (have hb2' : Below w.heap.size w w2 := below_tr (below_al (below_al (below_al hb1 _) _) _) hb2); (have HN2 : Hid (NS w w2.heap.size A2 c2 wkA (w2.alloc (.cells #[.slice A2 wkA.length c2, .int .u64 0] 27))) := Lib.hid ⟨new_here w2 _, (ho2.base (below_al (below_al (below_al hb1 _) _) _).size).below (below_al (Below.refl _ _) _), below_al hb2' _, hb2'.size⟩); (clear ho2 hb2 hb1 hb2'))
    | (go_at_call 17; (with_reducible refine (first_calls _ wkA 0 4 _ HN2.out.own.pcs).mono ?_); (rw [wk_first]); rintro e w3 ⟨rfl, hb3⟩; (have HN3 := Lib.hid (HN2.out.keep hb3)); (obtain ⟨x0, x1, x2, x3⟩ := HN3.out.cells); (clear hb3))
    | (go_at_call 23; (with_reducible refine (do_lit _ wkA 4 0 0 1 1#32 nb1 w3 _ wk_do1 HN3.out.own.pcs).mono ?_); rintro e w4 ⟨A4, c4, A4', c4', rfl, ho4, hq4, hb4⟩; (have HN4 := Lib.hid (HN3.out.keep hb4)); (clear x0 x1 x2 x3); (have HB4 : Hid (w2.heap.size < w3.heap.size ∧ w.heap.size ≤ w3.heap.size) := Lib.hid ⟨lt_of_heap HN3.out.box, HN3.out.below.size⟩); (have HO4 := Lib.hid ho4); (have HQ4 := Lib.hid hq4); (clear ho4 hq4 hb4); (obtain ⟨x0, x1, x2, x3, x4, x5⟩ := do_facts HN4.out); (have HN5 := Lib.hid (do_fin HN4.out HB4.out.1 HO4.out HB4.out.2 (.int .i64 0) (.slice A4' 0 c4') (.bool false))))
    | (go_at_call 23; (with_reducible refine (do_lit _ wkB 4 0 0 1 1#32 nb1 _ _ wk_do2 HN5.out.own.pcs).mono ?_); rintro e w6 ⟨A6, c6, A6', c6', rfl, ho6, hq6, hb6⟩; (have HN6 := Lib.hid (HN5.out.keep hb6)); (clear x0 x1 x2 x3 x4 x5 ho6 hq6 hb6); (have HN7 : Hid (NS w w2.heap.size A4 c4 wkB ((w6.alloc (.cells #[.slice A6 0 c6, .int .u64 0] 27)).alloc (.cells #[.int .i64 0, .slice A6' 0 c6', .bool false] 36))) := Lib.hid (HN6.out.keep (below_al (below_al (Below.refl _ _) _) _))); (obtain ⟨x0, x1, x2, x3⟩ := HN7.out.cells))
    | (go_at_call 23; (with_reducible refine (do_lit _ wkB 3 0 0 0 0#32 nb0 _ _ wk_do3 HN7.out.own.pcs).mono ?_); (have HL7 : Hid (w2.heap.size < ((w6.alloc (.cells #[.slice A6 0 c6, .int .u64 0] 27)).alloc (.cells #[.int .i64 0, .slice A6' 0 c6', .bool false] 36)).heap.size ∧ w.heap.size ≤ ((w6.alloc (.cells #[.slice A6 0 c6, .int .u64 0] 27)).alloc (.cells #[.int .i64 0, .slice A6' 0 c6', .bool false] 36)).heap.size) := Lib.hid ⟨lt_of_heap HN7.out.box, HN7.out.below.size⟩); rintro e w8 ⟨A8, c8, A8', c8', rfl, ho8, hq8, hb8⟩; (have HN8 := Lib.hid (HN7.out.keep hb8)); (clear x0 x1 x2 x3); (have HN9 := Lib.hid (do_fin HN8.out HL7.out.1 ho8 HL7.out.2 (.int .i64 0) (.slice A8' 0 c8') (.bool false))); (clear ho8 hq8 hb8); (obtain ⟨x0, x1, x2, x3, x4, x5⟩ := do_facts HN8.out))
    | (go_at_call 23; (with_reducible refine (do_lit _ wkC 1 2 0 0 0#32 nb0 _ _ wk_do4 HN9.out.own.pcs).mono ?_); rintro e w10 ⟨A10, c10, A10', c10', rfl, ho10, hq10, hb10⟩; (have HN10 := Lib.hid (HN9.out.keep hb10)); (clear x0 x1 x2 x3 x4 x5); (have HG11 := Lib.hid (gs_new (A := A10) (c := c10) hq10)); (have HN11 := Lib.hid (HN10.out.keep (below_al (below_al (Below.refl _ _) (.cells #[.slice A10 wkB.length c10, .int .u64 0] 27)) (.cells #[.int .i64 0, .slice A10' 2 c10', .bool true] 36)))); (clear ho10 hq10 hb10); (obtain ⟨x0, x1, x2, x3⟩ := HN11.out.cells))
    | (go_at_call 23; (with_reducible refine (do_lit _ wkC 2 9 0 0 0#32 nb0 _ _ wk_do5 HN11.out.own.pcs).mono ?_); rintro e w12 ⟨A12, c12, A12', c12', rfl, ho12, hq12, hb12⟩; (have HN13 := Lib.hid ((HN11.out.keep hb12).keep (below_al (below_al (Below.refl _ _) (.cells #[.slice A12 0 c12, .int .u64 0] 27)) (.cells #[.int .i64 0, .slice A12' 0 c12', .bool false] 36)))); (have HG13 := Lib.hid ((HG11.out.keep hb12).keep (below_al (below_al (Below.refl _ _) (.cells #[.slice A12 0 c12, .int .u64 0] 27)) (.cells #[.int .i64 0, .slice A12' 0 c12', .bool false] 36)))); (clear ho12 hq12 hb12 x0 x1 x2 x3); (obtain ⟨x0, x1, x2, x3⟩ := HN13.out.cells))
    | (go_at_call 15; (with_reducible refine (empty_calls _ wkC 0 _ HN13.out.own.pcs (Int.le_refl _) (by decide)).mono ?_); (rw [wk_empty]); rintro e w14 ⟨A14, c14, A14', c14', rfl, ho14, hq14, hb14⟩; (have HN15 := Lib.hid ((HN13.out.keep hb14).keep (below_al (Below.refl _ _) (.cells #[.slice A14 0 c14, .int .u64 0] 27)))); (have HG15 := Lib.hid ((HG13.out.keep hb14).keep (below_al (Below.refl _ _) (.cells #[.slice A14 0 c14, .int .u64 0] 27)))); (clear ho14 hq14 hb14 x0 x1 x2 x3); (obtain ⟨x0, x1, x2, x3⟩ := HN15.out.cells); (obtain ⟨y0, y1, y2⟩ := HG15.out.cells); (have hlB : wkB.length = 2 := rfl); (have hlC : wkC.length = 3 := rfl))
    | (go_at_call 16; go_loud ((have hx16 : ((w14.alloc (.cells #[.slice A14 0 c14, .int .u64 0] 27)).alloc (.cells #[.int .u8 0, .int .u8 2] 5)).heap[w14.heap.size + 1]? = some (.cells #[.int .u8 0, .int .u8 2] 5 (0, 0)) := by have := new_here (w14.alloc (.cells #[.slice A14 0 c14, .int .u64 0] 27)) (.cells #[.int .u8 0, .int .u8 2] 5); rwa [World.size_alloc] at this); (with_reducible refine (equal_calls _ _ [0#8, 2#8] [0#8, 2#8] _ (HG15.out.bys.below (below_al (Below.refl _ _) _)) (bys_lit (n := 2) (c := #[.int .u8 0, .int .u8 2]) rfl (by decide) hx16 wk_lit)).mono ?_); (rw [show decide ([0#8, 2#8] = [0#8, 2#8]) = true from by decide]); rintro e w16 ⟨rfl, n16, rfl⟩; (clear hx16))))
  go_ret
  exact ⟨rfl, (below_al HN15.out.below _).drewN _⟩
end Go.Proofs.Ytnhmhnejglpijaa
