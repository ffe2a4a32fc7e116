/- net: New and Empty: the walks. -/
import Derived.Test.YtnhmhnejglpijaaNt
namespace Go.Proofs.Ytnhmhnejglpijaa
open Go.RowKit
set_option maxRecDepth 100000
set_option linter.unusedSimpArgs false
set_option linter.unusedVariables false
theorem new_calls (w : World) : Calls Try.prog 14 #[] w fun e w' => e = .returned (.agg #[.slice none 0 0, .int .u64 0]) ∧ Below w.heap.size w w' := by
  go_enter Try.func14, Try.ntmps14
  go_wp2
  refine bodyPost_ret (v := .agg #[.slice none 0 0, .int .u64 0]) (by simp [results, Try.results14, go_sem]) rfl ⟨rfl, ?_⟩
  exact below_al (Below.refl _ w) _
/-- n tricks: each hands over the first parcel -/
def takeAll (n : Nat) : List Tk := List.replicate n ⟨1, 0, 0, 0#32⟩
theorem tkAt_takeAll (n j : Nat) (hj : j < n) : tkAt (takeAll n) j = ⟨1, 0, 0, 0#32⟩ := by
  simp [tkAt, takeAll, List.getD_eq_getElem?_getD, hj]
theorem tks_rep {w : World} {g n : Nat} {f : Nat × Nat} (hn : n ≤ 64) (h : w.heap[g]? = some (.cells (repC n n).toArray 48 f)) : Tks w (.slice (some ⟨g, 0, none⟩) n n) (takeAll n) := by
  have hl : (takeAll n).length = n := by simp [takeAll]
  refine ⟨some ⟨g, 0, none⟩, n, by rw [hl], by rw [hl]; exact Nat.le_refl _, by unfold maxLen; omega, fun _ => ⟨g, 0, rfl, fun j hj => ?_⟩⟩
  rw [hl] at hj
  rw [tkAt_takeAll n j hj]
  have key : ∀ r, r < 4 → w.cell? ⟨g, 0 + j * 4 + r, none⟩ = some (tkC r) := fun r hr => by
    have hc : (repC n n).toArray[j * 4 + r]? = some (tkC r) := by
      rw [List.getElem?_toArray, repC_get n n _ (by omega), if_pos (by omega), tkC, tkC, show (j * 4 + r) % 4 = r % 4 from by omega]
    simp [World.cell?, h, hc]
  exact ⟨key 0 (by omega), key 1 (by omega), key 2 (by omega), key 3 (by omega)⟩
/-- Empty's answer -/
def emptyN (ps : List Pc) (lost : Int) : Int × RS := runN ps lost (takeAll ps.length)
def EmptyRes (w : World) (r : Int × RS) (e : Ending) (w' : World) : Prop :=
  ∃ A c A2 c2, e = .returned (.tuple #[.agg #[.slice A r.2.ps.length c, .int .u64 r.2.lost], .slice A2 r.2.told.length c2, .int .i64 r.1]) ∧ OwnPs w' w.heap.size (.slice A r.2.ps.length c) r.2.ps ∧ OwnPs w' w.heap.size (.slice A2 r.2.told.length c2) r.2.told ∧ Below w.heap.size w w'
/-- a block of type 27 stays -/
theorem boxd {Y X : World} {b : Nat} (h : Y.heap[b]? = some (.cells #[.slice none 0 0, .int .u64 0] 27 (0, 0))) (hb : Below Y.heap.size Y X) :
    X.heap[b]? = some (.cells #[.slice none 0 0, .int .u64 0] 27 (0, 0)) ∧ X.cell? ⟨b, 0, none⟩ = some (.slice none 0 0) ∧ X.cell? ⟨b, 1, none⟩ = some (.int .u64 0) ∧ X.frozen? ⟨b, 0, none⟩ = false ∧ X.frozen? ⟨b, 1, none⟩ = false := by
  have h1 := (hb.block _ (lt_of_heap h)).trans h
  exact ⟨h1, cell_of_heap h1, cell_of_heap h1, free_of_heap h1, free_of_heap h1⟩
theorem box_fin {w4 : World} {b : Nat} (hx : w4.heap[b]? = some (.cells #[.slice none 0 0, .int .u64 0] 27 (0, 0))) (u u' : Value) :
    ((w4.setCell ⟨b, 0, none⟩ u).setCell ⟨b, 1, none⟩ u').heap[b]? = some (.cells #[u, u'] 27 (0, 0)) ∧ ∀ B v ps, OwnPs w4 B v ps → OwnPs ((w4.setCell ⟨b, 0, none⟩ u).setCell ⟨b, 1, none⟩ u') B v ps := by
  have a1 := heap_setCell_same w4 b 0 u _ _ _ hx
  have a2 := heap_setCell_same _ b 1 u' _ _ _ a1
  simp only [List.setIfInBounds_toArray, List.set_cons_zero, List.set_cons_succ] at a1 a2
  exact ⟨a2, fun B v ps h => (h.set hx (by decide) (by decide)).set a1 (by decide) (by decide)⟩
/-- behind Empty's first statement -/
def EmptyEnd (W : World) (r : Int × RS) (A : Option Addr) (c : Nat) (A2 : Option Addr) (c2 bx : Nat) (Y : World) : Prop :=
  Y.heap[bx]? = some (.cells #[.slice A r.2.ps.length c, .int .u64 r.2.lost] 27 (0, 0)) ∧ OwnPs Y W.heap.size (.slice A r.2.ps.length c) r.2.ps ∧ OwnPs Y W.heap.size (.slice A2 r.2.told.length c2) r.2.told ∧ Below W.heap.size W Y
theorem end_new {W w4 : World} {r : Int × RS} {A A2 : Option Addr} {c c2 B : Nat} (hB : W.heap.size ≤ B) (h1 : OwnPs w4 B (.slice A r.2.ps.length c) r.2.ps) (h2 : OwnPs w4 B (.slice A2 r.2.told.length c2) r.2.told) (hb : Below W.heap.size W w4) :
    EmptyEnd W r A c A2 c2 w4.heap.size (w4.alloc (.cells #[.slice A r.2.ps.length c, .int .u64 r.2.lost] 27)) :=
  ⟨new_here w4 _, (h1.below (below_al (Below.refl _ _) _)).base hB, (h2.below (below_al (Below.refl _ _) _)).base hB, below_al hb _⟩
theorem end_set {W w4 : World} {r : Int × RS} {A A2 : Option Addr} {c c2 B b : Nat} (hx : w4.heap[b]? = some (.cells #[.slice none 0 0, .int .u64 0] 27 (0, 0))) (hb0 : W.heap.size ≤ b) (hB : W.heap.size ≤ B) (h1 : OwnPs w4 B (.slice A r.2.ps.length c) r.2.ps) (h2 : OwnPs w4 B (.slice A2 r.2.told.length c2) r.2.told) (hb : Below W.heap.size W w4) :
    EmptyEnd W r A c A2 c2 b ((w4.setCell ⟨b, 0, none⟩ (.slice A r.2.ps.length c)).setCell ⟨b, 1, none⟩ (.int .u64 r.2.lost)) :=
  have h := box_fin hx (.slice A r.2.ps.length c) (.int .u64 r.2.lost)
  ⟨h.1, (h.2 _ _ _ h1).base hB, (h.2 _ _ _ h2).base hB, (hb.setCell (p := ⟨b, 0, none⟩) hb0 _).setCell (p := ⟨b, 1, none⟩) hb0 _⟩
theorem empty_fin {w W Z : World} {r : Int × RS} {A A2 : Option Addr} {c c2 : Nat} (hz : W.heap.size = w.heap.size + 2) (hw : Below w.heap.size w W) (e2 : OwnPs Z W.heap.size (.slice A r.2.ps.length c) r.2.ps) (e3 : OwnPs Z W.heap.size (.slice A2 r.2.told.length c2) r.2.told) (e4 : Below W.heap.size W Z)
    (k7 : Z.heap[w.heap.size + 1]? = some (.cells #[.slice none 0 0, .int .u64 0] 27 (0, 0))) :
    OwnPs ((Z.setCell ⟨w.heap.size + 1, 0, none⟩ (.slice A r.2.ps.length c)).setCell ⟨w.heap.size + 1, 1, none⟩ (.int .u64 r.2.lost)) w.heap.size (.slice A r.2.ps.length c) r.2.ps ∧
    OwnPs ((Z.setCell ⟨w.heap.size + 1, 0, none⟩ (.slice A r.2.ps.length c)).setCell ⟨w.heap.size + 1, 1, none⟩ (.int .u64 r.2.lost)) w.heap.size (.slice A2 r.2.told.length c2) r.2.told ∧
    Below w.heap.size w ((Z.setCell ⟨w.heap.size + 1, 0, none⟩ (.slice A r.2.ps.length c)).setCell ⟨w.heap.size + 1, 1, none⟩ (.int .u64 r.2.lost)) := by
  have h := box_fin k7 (.slice A r.2.ps.length c) (.int .u64 r.2.lost)
  exact ⟨(h.2 _ _ _ e2).base (by omega), (h.2 _ _ _ e3).base (by omega), (((below_tr hw e4).setCell (p := ⟨w.heap.size + 1, 0, none⟩) (by show w.heap.size ≤ w.heap.size + 1; omega) _).setCell (p := ⟨w.heap.size + 1, 1, none⟩) (by show w.heap.size ≤ w.heap.size + 1; omega) _)⟩
set_option maxHeartbeats 4000000 in
theorem empty_calls (vp : Value) (ps : List Pc) (lost : Int) (w : World) (hp : Pcs w vp ps) (h0 : 0 ≤ lost) (hn : ps.length ≤ 64) :
    Calls Try.prog 15 #[.agg #[vp, .int .u64 lost]] w (EmptyRes w (emptyN ps lost)) := by
  obtain ⟨A1, c1, rfl, _⟩ := hp.len
  obtain ⟨W, hW⟩ : ∃ W, (w.alloc (.cells #[.slice A1 ps.length c1, .int .u64 lost] 27)).alloc (.cells #[.slice none 0 0, .int .u64 0] 27) = W := ⟨_, rfl⟩
  have hz : W.heap.size = w.heap.size + 2 := by rw [← hW]; simp
  have hbW : Below w.heap.size w W := by rw [← hW]; exact below_al (below_al (Below.refl _ _) _) _
  obtain ⟨g0, g1, _⟩ := new_three w (.cells #[.slice A1 ps.length c1, .int .u64 lost] 27) (.cells #[.slice none 0 0, .int .u64 0] 27) (.cells #[] 27)
  have b0 : W.heap[w.heap.size]? = some (.cells #[.slice A1 ps.length c1, .int .u64 lost] 27 (0, 0)) := by
    rw [← hW]; exact ((below_al (Below.refl _ _) (.cells #[] 27)).block _ (by simp; omega)).symm.trans g0
  have b1 : W.heap[w.heap.size + 1]? = some (.cells #[.slice none 0 0, .int .u64 0] 27 (0, 0)) := by
    rw [← hW]; exact ((below_al (Below.refl _ _) (.cells #[] 27)).block _ (by simp)).symm.trans g1
  have HK : Hid (∀ X, Below W.heap.size W X → X.cell? ⟨w.heap.size, 0, none⟩ = some (.slice A1 ps.length c1) ∧ X.cell? ⟨w.heap.size, 1, none⟩ = some (.int .u64 lost) ∧
      X.cell? ⟨w.heap.size + 1, 0, none⟩ = some (.slice none 0 0) ∧ X.cell? ⟨w.heap.size + 1, 1, none⟩ = some (.int .u64 0) ∧ X.frozen? ⟨w.heap.size + 1, 0, none⟩ = false ∧ X.frozen? ⟨w.heap.size + 1, 1, none⟩ = false ∧ X.heap[w.heap.size + 1]? = some (.cells #[.slice none 0 0, .int .u64 0] 27 (0, 0))) := Lib.hid (fun X hX => by
    have h1 := (hX.block _ (by omega)).trans b0
    have h2 := (hX.block _ (by omega)).trans b1
    exact ⟨cell_of_heap h1, cell_of_heap h1, cell_of_heap h2, cell_of_heap h2, free_of_heap h2, free_of_heap h2, h2⟩)
  have HP := Lib.hid (hp.below hbW)
  have HBW := Lib.hid hbW
  have HZ := Lib.hid hz
  have HN := Lib.hid hn
  have H0 := Lib.hid h0
  have HW := Lib.hid hW
  obtain ⟨r, hr⟩ : ∃ r, emptyN ps lost = r := ⟨_, rfl⟩
  have HR := Lib.hid hr
  rw [hr]
  clear hp hW hz hbW g0 g1 b0 b1 hr hn h0
  go_enter Try.func15, Try.ntmps15
  go_wp2
  rw [HW.out]
  obtain ⟨c48, hc48⟩ : ∃ c, Obj.cells #[.int .i64 1, .int .i64 0, .int .i64 0, .int .u32 0] 48 = c := ⟨_, rfl⟩
  obtain ⟨c27, hc27⟩ : ∃ c, Obj.cells #[.slice none 0 0, .int .u64 0] 27 = c := ⟨_, rfl⟩
  have N2 : Hid (((W.alloc (.cells #[.int .i64 1, .int .i64 0, .int .i64 0, .int .u32 0] 48)).alloc (.cells #[.slice none 0 0, .int .u64 0] 27)).heap[W.heap.size]? = some (.cells #[.int .i64 1, .int .i64 0, .int .i64 0, .int .u32 0] 48 (0, 0))) := Lib.hid (new_next _ _ (new_here W _))
  have N3 : Hid (((W.alloc (.cells #[.slice none 0 0, .int .u64 0] 27)).alloc (.cells #[.int .i64 1, .int .i64 0, .int .i64 0, .int .u32 0] 48)).heap[W.heap.size + 1]? = some (.cells #[.int .i64 1, .int .i64 0, .int .i64 0, .int .u32 0] 48 (0, 0))) := Lib.hid (by have := new_here (W.alloc (.cells #[.slice none 0 0, .int .u64 0] 27)) (.cells #[.int .i64 1, .int .i64 0, .int .i64 0, .int .u32 0] 48); rwa [World.size_alloc] at this)
  have M2 : Hid (((W.alloc (.cells #[.int .i64 1, .int .i64 0, .int .i64 0, .int .u32 0] 48)).alloc (.cells #[.slice none 0 0, .int .u64 0] 27)).heap[W.heap.size + 1]? = some (.cells #[.slice none 0 0, .int .u64 0] 27 (0, 0))) := Lib.hid (by have := new_here (W.alloc (.cells #[.int .i64 1, .int .i64 0, .int .i64 0, .int .u32 0] 48)) (.cells #[.slice none 0 0, .int .u64 0] 27); rwa [World.size_alloc] at this)
  have M3 : Hid (((W.alloc (.cells #[.slice none 0 0, .int .u64 0] 27)).alloc (.cells #[.int .i64 1, .int .i64 0, .int .i64 0, .int .u32 0] 48)).heap[W.heap.size]? = some (.cells #[.slice none 0 0, .int .u64 0] 27 (0, 0))) := Lib.hid (new_next _ _ (new_here W _))
  clear hc48 hc27 c48 c27
  go_region_held3 (fun X => X.cell? ⟨w.heap.size, 0, none⟩ = some (.slice A1 ps.length c1) ∧ X.cell? ⟨w.heap.size, 1, none⟩ = some (.int .u64 lost))
    ((refine ⟨(HK.out _ ?_).1, (HK.out _ ?_).2.1⟩) <;> (repeat (with_reducible first | exact Below.refl _ _ | assumption | apply below_dr | apply below_al | (refine Below.setCell ?_ ?_ _) | (dsimp only; assumption) | (dsimp only; omega) | (dsimp only; exact Nat.le_refl _))))
    (first
    | (go_simp; go_at_call 67; (with_reducible refine (repeat_calls _ _ (0, 0) _ HN.out ?_).mono ?_); (first | exact new_here W _ | exact N2.out | exact N3.out); rintro e w3 ⟨g, rfl, hg3, hb3⟩; (have hbt : Below W.heap.size W w3 := below_tr (by repeat (with_reducible first | exact Below.refl _ _ | apply below_dr | apply below_al | assumption)) hb3); (have hs3 := hbt.size); (try (have hx3 := boxd (Y := (W.alloc (.cells #[.int .i64 1, .int .i64 0, .int .i64 0, .int .u32 0] 48)).alloc (.cells #[.slice none 0 0, .int .u64 0] 27)) M2.out (below_tr (below_dr (Below.refl _ _)) hb3))); (try (have hx3 := boxd (Y := (W.alloc (.cells #[.slice none 0 0, .int .u64 0] 27)).alloc (.cells #[.int .i64 1, .int .i64 0, .int .i64 0, .int .u32 0] 48)) M3.out (below_tr (below_dr (Below.refl _ _)) hb3))))
    | (go_simp; go_at_call 28; (first
        | (with_reducible refine (run_calls _ _ ps lost (takeAll ps.length) w3 (HP.out.below hbt) (tks_rep HN.out hg3) H0.out (by simp [takeAll]; have := HN.out; omega)).mono ?_)
        | (with_reducible refine (run_calls _ _ ps lost (takeAll ps.length) (w3.alloc (.cells #[.slice none 0 0, .int .u64 0] 27)) (HP.out.below (below_al hbt _)) ((tks_rep HN.out hg3).below (below_al (Below.refl _ _) _)) H0.out (by simp [takeAll]; have := HN.out; omega)).mono ?_)); (rw [show runN ps lost (takeAll ps.length) = r from HR.out]); rintro e w4 ⟨A, c, A2, c2, rfl, ho1, ho2, hb4⟩; (have hbu : Below W.heap.size W w4 := below_tr (by repeat (with_reducible first | exact Below.refl _ _ | apply below_dr | apply below_al | assumption)) hb4); (have hs4 := hbu.size); (try (have hx4 := boxd hx3.1 hb4; obtain ⟨x0, x1, x2, x3, x4⟩ := hx4)); (try (have hx4 := boxd (new_here w3 _) hb4; obtain ⟨x0, x1, x2, x3, x4⟩ := hx4))))
  · have HB3 : W.heap.size ≤ w3.heap.size := hs3
    have hE : EmptyEnd W r A c A2 c2 (w4.heap.size) (w4.alloc (.cells #[.slice A r.2.ps.length c, .int .u64 r.2.lost] 27)) := end_new (Nat.le_trans hs3 (Nat.le_refl _)) ho1 ho2 hbu
    generalize w4.alloc (.cells #[.slice A r.2.ps.length c, .int .u64 r.2.lost] 27) = Z at hE ⊢
    generalize w4.heap.size = bx at hE ⊢
    clear hbu hb4 ho1 ho2 hs3 hs4 hb3 hg3 hbt HB3
    obtain ⟨e1, e2, e3, e4⟩ := hE
    obtain ⟨k1, k2, k3, k4, k5, k6, k7⟩ := HK.out Z e4
    have y0 : Z.cell? ⟨bx, 0, none⟩ = some (.slice A r.2.ps.length c) := cell_of_heap e1
    have y1 : Z.cell? ⟨bx, 1, none⟩ = some (.int .u64 r.2.lost) := cell_of_heap e1
    have HF := Lib.hid (empty_fin HZ.out HBW.out e2 e3 e4 k7)
    clear e1 e2 e3 e4 k7 N2 N3 M2 M3
    go_wp2
    refine bodyPost_ret (v := .tuple #[.agg #[.slice A r.2.ps.length c, .int .u64 r.2.lost], .slice A2 r.2.told.length c2, .int .i64 r.1]) (by simp [results, Try.results15, go_sem, k3, k4]) rfl ?_
    exact ⟨A, c, A2, c2, rfl, HF.out.1, HF.out.2.1, HF.out.2.2⟩
  · have HB3 : W.heap.size ≤ (w3.alloc (.cells #[.slice none 0 0, .int .u64 0] 27)).heap.size := by rw [World.size_alloc]; omega
    have hE : EmptyEnd W r A c A2 c2 (w3.heap.size) ((w4.setCell ⟨w3.heap.size, 0, none⟩ (.slice A r.2.ps.length c)).setCell ⟨w3.heap.size, 1, none⟩ (.int .u64 r.2.lost)) := end_set x0 (by omega) HB3 ho1 ho2 hbu
    generalize (w4.setCell ⟨w3.heap.size, 0, none⟩ (.slice A r.2.ps.length c)).setCell ⟨w3.heap.size, 1, none⟩ (.int .u64 r.2.lost) = Z at hE ⊢
    generalize w3.heap.size = bx at hE ⊢
    clear hbu hb4 ho1 ho2 hs3 hs4 hb3 hg3 hbt HB3
    obtain ⟨e1, e2, e3, e4⟩ := hE
    obtain ⟨k1, k2, k3, k4, k5, k6, k7⟩ := HK.out Z e4
    have y0 : Z.cell? ⟨bx, 0, none⟩ = some (.slice A r.2.ps.length c) := cell_of_heap e1
    have y1 : Z.cell? ⟨bx, 1, none⟩ = some (.int .u64 r.2.lost) := cell_of_heap e1
    have HF := Lib.hid (empty_fin HZ.out HBW.out e2 e3 e4 k7)
    clear e1 e2 e3 e4 k7 N2 N3 M2 M3
    go_wp2
    refine bodyPost_ret (v := .tuple #[.agg #[.slice A r.2.ps.length c, .int .u64 r.2.lost], .slice A2 r.2.told.length c2, .int .i64 r.1]) (by simp [results, Try.results15, go_sem, k3, k4]) rfl ?_
    exact ⟨A, c, A2, c2, rfl, HF.out.1, HF.out.2.1, HF.out.2.2⟩
  · have HB3 : W.heap.size ≤ w3.heap.size := hs3
    have hE : EmptyEnd W r A c A2 c2 (W.heap.size + 1) ((w4.setCell ⟨W.heap.size + 1, 0, none⟩ (.slice A r.2.ps.length c)).setCell ⟨W.heap.size + 1, 1, none⟩ (.int .u64 r.2.lost)) := end_set x0 (by omega) HB3 ho1 ho2 hbu
    generalize (w4.setCell ⟨W.heap.size + 1, 0, none⟩ (.slice A r.2.ps.length c)).setCell ⟨W.heap.size + 1, 1, none⟩ (.int .u64 r.2.lost) = Z at hE ⊢
    generalize W.heap.size + 1 = bx at hE ⊢
    clear hbu hb4 ho1 ho2 hs3 hs4 hb3 hg3 hbt HB3
    obtain ⟨e1, e2, e3, e4⟩ := hE
    obtain ⟨k1, k2, k3, k4, k5, k6, k7⟩ := HK.out Z e4
    have y0 : Z.cell? ⟨bx, 0, none⟩ = some (.slice A r.2.ps.length c) := cell_of_heap e1
    have y1 : Z.cell? ⟨bx, 1, none⟩ = some (.int .u64 r.2.lost) := cell_of_heap e1
    have HF := Lib.hid (empty_fin HZ.out HBW.out e2 e3 e4 k7)
    clear e1 e2 e3 e4 k7 N2 N3 M2 M3
    go_wp2
    refine bodyPost_ret (v := .tuple #[.agg #[.slice A r.2.ps.length c, .int .u64 r.2.lost], .slice A2 r.2.told.length c2, .int .i64 r.1]) (by simp [results, Try.results15, go_sem, k3, k4]) rfl ?_
    exact ⟨A, c, A2, c2, rfl, HF.out.1, HF.out.2.1, HF.out.2.2⟩
  · have HB3 : W.heap.size ≤ w3.heap.size := hs3
    have hE : EmptyEnd W r A c A2 c2 (W.heap.size) ((w4.setCell ⟨W.heap.size, 0, none⟩ (.slice A r.2.ps.length c)).setCell ⟨W.heap.size, 1, none⟩ (.int .u64 r.2.lost)) := end_set x0 (by omega) HB3 ho1 ho2 hbu
    generalize (w4.setCell ⟨W.heap.size, 0, none⟩ (.slice A r.2.ps.length c)).setCell ⟨W.heap.size, 1, none⟩ (.int .u64 r.2.lost) = Z at hE ⊢
    generalize W.heap.size = bx at hE ⊢
    clear hbu hb4 ho1 ho2 hs3 hs4 hb3 hg3 hbt HB3
    obtain ⟨e1, e2, e3, e4⟩ := hE
    obtain ⟨k1, k2, k3, k4, k5, k6, k7⟩ := HK.out Z e4
    have y0 : Z.cell? ⟨bx, 0, none⟩ = some (.slice A r.2.ps.length c) := cell_of_heap e1
    have y1 : Z.cell? ⟨bx, 1, none⟩ = some (.int .u64 r.2.lost) := cell_of_heap e1
    have HF := Lib.hid (empty_fin HZ.out HBW.out e2 e3 e4 k7)
    clear e1 e2 e3 e4 k7 N2 N3 M2 M3
    go_wp2
    refine bodyPost_ret (v := .tuple #[.agg #[.slice A r.2.ps.length c, .int .u64 r.2.lost], .slice A2 r.2.told.length c2, .int .i64 r.1]) (by simp [results, Try.results15, go_sem, k3, k4]) rfl ?_
    exact ⟨A, c, A2, c2, rfl, HF.out.1, HF.out.2.1, HF.out.2.2⟩
end Go.Proofs.Ytnhmhnejglpijaa
