/- gessolaw23.wakes: the walk. -/
import Derived.Test.YtnhmhnejglpijaaQz
namespace Go.Proofs.Ytnhmhnejglpijaa
open Go.RowKit
set_option maxRecDepth 100000
set_option linter.unusedSimpArgs false
set_option linter.unusedVariables false
theorem lit56 (w : World) : Bys (w.alloc (.cells #[.int .u8 5, .int .u8 6] 5)) (.slice (some ⟨w.heap.size, 0, none⟩) 2 2) wk56 := lit_bys w wk56 (by decide)
theorem wk_rows (w : World) : RwsA (((w.alloc (.cells #[.int .u8 5] 5)).alloc (.cells #[.int .u8 6, .int .u8 7] 5)).alloc (.cells #[.slice (some ⟨w.heap.size, 0, none⟩) 1 1, .slice (some ⟨w.heap.size + 1, 0, none⟩) 2 2] 34)) (.slice (some ⟨w.heap.size + 1 + 1, 0, none⟩) 2 2) wkRows := by
  have h1 : Bys (w.alloc (.cells #[.int .u8 5] 5)) (.slice (some ⟨w.heap.size, 0, none⟩) 1 1) wk5 := lit_bys w wk5 (by decide)
  have h2 : Bys ((w.alloc (.cells #[.int .u8 5] 5)).alloc (.cells #[.int .u8 6, .int .u8 7] 5)) (.slice (some ⟨(w.alloc (.cells #[.int .u8 5] 5)).heap.size, 0, none⟩) 2 2) wk67 := lit_bys _ wk67 (by decide)
  rw [World.size_alloc] at h2
  have h3 := rws_two ((w.alloc (.cells #[.int .u8 5] 5)).alloc (.cells #[.int .u8 6, .int .u8 7] 5)) _ _ wk5 wk67 (h1.below (below_al (Below.refl _ _) _)) h2 34
  rw [World.size_alloc, World.size_alloc] at h3
  exact h3
theorem lit3 (w : World) : Bys (w.alloc (.cells #[.int .u8 0, .int .u8 0, .int .u8 0] 5)) (.slice (some ⟨w.heap.size, 0, none⟩) 3 3) [0#8, 0#8, 0#8] := lit_bys w [0#8, 0#8, 0#8] (by decide)
theorem lit4 (w : World) : Bys (w.alloc (.cells #[.int .u8 0, .int .u8 1, .int .u8 0, .int .u8 1] 5)) (.slice (some ⟨w.heap.size, 0, none⟩) 4 4) [0#8, 1#8, 0#8, 1#8] := lit_bys w [0#8, 1#8, 0#8, 1#8] (by decide)
theorem lit8 (w : World) : Bys (w.alloc (.cells #[.int .u8 0, .int .u8 0, .int .u8 0, .int .u8 0, .int .u8 1, .int .u8 1, .int .u8 1, .int .u8 1] 5)) (.slice (some ⟨w.heap.size, 0, none⟩) 8 8) [0#8, 0#8, 0#8, 0#8, 1#8, 1#8, 1#8, 1#8] := lit_bys w [0#8, 0#8, 0#8, 0#8, 1#8, 1#8, 1#8, 1#8] (by decide)
theorem lit0 (w : World) : Bys (w.alloc (.cells #[.int .u8 0] 5)) (.slice (some ⟨w.heap.size, 0, none⟩) 1 1) [0#8] := lit_bys w [0#8] (by decide)
theorem lit5 (w : World) : Bys (w.alloc (.cells #[.int .u8 5] 5)) (.slice (some ⟨w.heap.size, 0, none⟩) 1 1) wk5 := lit_bys w wk5 (by decide)
/-- what wakes keeps: what was joined -/
structure WkJ (w : World) (A : Option Addr) (c : Nat) (W : World) : Prop where
  below : Below w.heap.size w W
  own : Own8 W w.heap.size (.slice A 19 c) wkJ
theorem WkJ.keep {w W W' : World} {A : Option Addr} {c : Nat} (h : WkJ w A c W) (hb : Below W.heap.size W W') : WkJ w A c W' := ⟨below_tr h.below hb, h.own.below hb⟩
theorem WkJ.front {w W : World} {A : Option Addr} {c : Nat} (h : WkJ w A c W) : Bt W (.slice A 18 c) wkF := h.own.bt.take 18 (by decide)
/-- and the row that was scanned -/
structure WkS (w : World) (A : Option Addr) (c g c5 : Nat) (A5 : Option Addr) (W : World) : Prop where
  j : WkJ w A c W
  cell : W.cell? ⟨g, 0, none⟩ = some (.slice A5 1 c5)
  bys : Bys W (.slice A5 1 c5) wk5
theorem WkS.keep {w W W' : World} {A : Option Addr} {c g c5 : Nat} {A5 : Option Addr} (h : WkS w A c g c5 A5 W) (hb : Below W.heap.size W W') : WkS w A c g c5 A5 W' := ⟨h.j.keep hb, (hb.cell (World.block_lt_of_cell? W _ h.cell)).trans h.cell, h.bys.below hb⟩
theorem wk_eq (v1 v2 : Value) (w : World) (h1 : Bys w v1 wk5) (h2 : Bys w v2 wk5) : Calls Try.prog 16 #[v1, v2] w fun e w' => e = .returned (.bool true) ∧ ∃ n, w' = w.drewN n :=
  (equal_calls v1 v2 wk5 wk5 w h1 h2).mono (by
    rintro e w' ⟨rfl, h⟩
    exact ⟨rfl, h⟩)
set_option maxHeartbeats 4000000 in
theorem wakes23_calls (w : World) : Calls Try.prog 35 #[] w fun e w' => e = .returned (.bool true) ∧ Below w.heap.size w w' := by
  go_enter Try.func35, Try.ntmps35
  go_wp2_with (first
    | (go_at_call 40; (with_reducible refine (wk_rec _ _ (lit56 w)).mono ?_); rintro e w1 ⟨A1, c1, rfl, hb1⟩; (have hb1' : Below w.heap.size w w1 := below_tr (below_al (Below.refl _ _) _) hb1); clear hb1)
    | (go_at_call 38; (with_reducible refine (wk_join _ _ (wk_rows w1)).mono ?_); rintro e w2 ⟨A2, c2, hc2, rfl, ho2, hb2⟩; (have hb2' : Below w.heap.size w w2 := below_tr (below_al (below_al (below_al hb1' _) _) _) hb2); (have HJ : Hid (WkJ w A2 c2 w2) := Lib.hid ⟨hb2', ho2.base (below_al (below_al (below_al hb1' _) _) _).size⟩); clear ho2 hb2)
    | (go_at_call 46; (with_reducible refine (wk_scan _ _ HJ.out.front).mono ?_); rintro e w3 ⟨g, c3, A5, c5, rfl, hg3, hy3, hb3⟩; (have HS3 : Hid (WkS w A2 c2 g c5 A5 w3) := Lib.hid ⟨HJ.out.keep hb3, hg3, hy3⟩); clear hg3 hy3 hb3)
    | (go_at_call 52; (with_reducible refine (wk_first _ _ 110 _ (lit3 w3) (by decide) wk_f1).mono ?_); rintro e w4 ⟨v4, rfl, hb4⟩; (have HS4 := Lib.hid ((HS3.out.keep (below_al (Below.refl _ _) _)).keep hb4)); clear hb4)
    | (go_at_call 52; (with_reducible refine (wk_first _ _ 3 _ (lit4 w4) (by decide) wk_f2).mono ?_); rintro e w5 ⟨v5, rfl, hb5⟩; (have HS5 := Lib.hid ((HS4.out.keep (below_al (Below.refl _ _) _)).keep hb5)); clear hb5)
    | (go_at_call 52; (with_reducible refine (wk_first _ _ 120 _ (lit8 w5) (by decide) wk_f3).mono ?_); rintro e w6 ⟨v6, rfl, hb6⟩; (have HS6 := Lib.hid ((HS5.out.keep (below_al (Below.refl _ _) _)).keep hb6)); clear hb6)
    | (go_at_call 37; (with_reducible refine (clone_calls _ wkJ _ HS6.out.j.own.bys (by rw [wkJ_len]; decide)).mono ?_); rintro e w7 ⟨v7, rfl, ho7, hb7⟩; (have HB7 := Lib.hid hb7); (have HO7 := Lib.hid ho7); clear ho7 hb7)
    | (at_builtin; refine wpList_app8 rfl (.tmp 74) (.tmp 75) rfl w6.heap.size _ _ wkJ [0#8] rfl (HO7.out.alloc _) rfl (lit0 w7) (by rw [wkJ_len]; decide) (below_al HB7.out _).size ?_; intro v8 w8 ho8 hg8 _; (have HS8 : Hid (WkS w A2 c2 g c5 A5 w8) := Lib.hid (HS6.out.keep ((below_al HB7.out _).grown hg8 (below_al HB7.out _).size (fun k e => (HO7.out.lt k e).1)))); (have HO8 := Lib.hid ho8); clear ho8 hg8)
    | (go_at_call 47; (with_reducible refine (wk_why _ _ HO8.out.bt).mono ?_); rintro e w9 ⟨rfl, hb9⟩; (have HS9 := Lib.hid (HS8.out.keep hb9)); clear hb9)
    | (go_at_call 43; (with_reducible refine (wk_append _ _ HS9.out.j.front).mono ?_); rintro e w10 ⟨v10, rfl, hb10⟩; (have HS10 := Lib.hid (HS9.out.keep hb10)); (have x10 := HS10.out.cell); clear hb10)
    | (go_at_call 16; (with_reducible refine (wk_eq _ _ _ (HS10.out.bys.below (below_al (Below.refl _ _) _)) (lit5 w10)).mono ?_); rintro e w11 ⟨rfl, n, rfl⟩))
  go_ret
  exact ⟨rfl, (below_al HS10.out.j.below _).drewN _⟩
end Go.Proofs.Ytnhmhnejglpijaa
