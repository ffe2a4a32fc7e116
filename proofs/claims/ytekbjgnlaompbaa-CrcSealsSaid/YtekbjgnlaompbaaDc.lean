/- The law of parts: the walk. -/
import Derived.Test.YtekbjgnlaompbaaDb
namespace Go.Proofs.Ytekbjgnlaompbaa
open Go.RowKit
set_option linter.unusedSimpArgs false
theorem own8_some {w : World} {B : Nat} {v : Value} {bs : List B8} (h : Own8 w B v bs) (h0 : 0 < bs.length) : ∃ g cap, v = .slice (some ⟨g, 0, none⟩) bs.length cap ∧ B ≤ g ∧ g < w.heap.size ∧ bs.length ≤ cap ∧ cap ≤ maxLen := by
  rcases h.2 with ⟨_, hn⟩ | ⟨g, cap, cur, e, hb, hgg, hnc, hm, _⟩
  · omega
  · exact ⟨g, cap, e, hb, lt_of_heap hgg, hnc, hm⟩
theorem own8_set {w : World} {B g n cap : Nat} {bs : List B8} (h : Own8 w B (.slice (some ⟨g, 0, none⟩) n cap) bs) (hn : n = bs.length) (k : Nat) (hk : k < bs.length) (y : B8) :
    w.cell? ⟨g, k, none⟩ = some (.int .u8 (bn (byteAt bs k))) ∧ w.frozen? ⟨g, k, none⟩ = false ∧ Own8 (w.setCell ⟨g, k, none⟩ (.int .u8 (bn y))) B (.slice (some ⟨g, 0, none⟩) n cap) (bs.set k y) := by
  subst hn
  obtain ⟨A, c, e1, h1, h2, h3, h4⟩ := h.bys
  cases e1
  obtain ⟨b, off, e2, hc⟩ := h4 (by omega)
  cases e2
  have hck := hc k hk
  rw [Nat.zero_add] at hck
  rcases h.2 with ⟨e, hn⟩ | ⟨g', cap', cur, e, hb, hgg, hnc, hm, hsz, ht⟩
  · cases e
  · cases e
    refine ⟨hck, free_of_heap hgg, ?_⟩
    have hgg' : w.heap[g]? = some (.cells (cur.toList).toArray 5 (0, 0)) := by simpa using hgg
    have hs := heap_setCell_same w g k (.int .u8 (bn y)) _ _ _ hgg'
    simp only [List.setIfInBounds_toArray] at hs
    rw [Nat.mul_one] at ht hsz
    refine own8_of_heap hb hs (by simp [hsz]) (by simp) h1 hm ?_
    rw [List.take_set, ht]
    simp [bvals, List.map_set]
theorem sum_E1 (W0 : World) (a : Nat) (v : Value) (bs : List B8) (W : World) (hB : Below W0.heap.size W0 W) (hb : Bys W0 v bs) (hW : W.heap[a]? = some (.cells #[v] 29 (0, 0))) :
    Calls Try.prog 20 #[.slice (some ⟨a, 0, none⟩) 1 1] W fun e w' => e = .returned (.int .u32 (nb (moreW 0 bs))) ∧ Below W0.heap.size W0 w' :=
  (sum_any a v bs _ rfl W hW (hb.below hB)).mono fun _ _ ⟨he, h⟩ => ⟨he, below_tr hB h⟩
theorem sum_E2 (W0 : World) (a : Nat) (v1 v2 : Value) (b1 b2 : List B8) (W : World) (hB : Below W0.heap.size W0 W) (h1 : Bys W0 v1 b1) (h2 : Bys W0 v2 b2) (hW : W.heap[a]? = some (.cells #[v1, v2] 29 (0, 0))) :
    Calls Try.prog 20 #[.slice (some ⟨a, 0, none⟩) 2 2] W fun e w' => e = .returned (.int .u32 (nb (moreW 0 (b1 ++ b2)))) ∧ Below W0.heap.size W0 w' := by
  have hR : Rws W (.slice (some ⟨a, 0, none⟩) 2 2) [b1, b2] := by
    refine ⟨_, 2, rfl, by simp, fun _ => ⟨a, 0, rfl, fun j hj => ?_⟩⟩
    match j, hj with
    | 0, _ => exact ⟨_, cell_of_heap hW, h1.below hB⟩
    | 1, _ => exact ⟨_, cell_of_heap hW, h2.below hB⟩
  have := sum_calls _ _ _ _ _ hR
  simp only [List.flatten_cons, List.flatten_nil, List.append_nil] at this
  exact this.mono fun _ _ ⟨he, h⟩ => ⟨he, below_tr hB h⟩
theorem mor_E (W0 : World) (s : W32) (A : Option Addr) (n c : Nat) (bs : List B8) (W : World) (hB : Below W0.heap.size W0 W) (hn : n = bs.length) (hb : Bys W0 (.slice A n c) bs) :
    Calls Try.prog 22 #[.int .u32 (nb s), .slice A n c] W fun e w' => e = .returned (.int .u32 (nb (moreW s bs))) ∧ Below W0.heap.size W0 w' := by
  subst hn
  exact (mor_calls s A c bs W (hb.below hB)).mono fun _ _ ⟨he, h⟩ => ⟨he, below_tr hB h⟩
set_option maxRecDepth 100000 in
set_option maxHeartbeats 4000000 in
theorem parts_nil (hwk : WakesOk) (v : Value) (bs : List B8) (b : Int) (y : B8) (w : World) (hb : Bys w v bs) (hx : bs.take 400 = []) :
    Calls Try.prog 7 #[v, .int .i64 b, .int .u8 (bn y)] w fun e w' => e = .returned (.bool true) ∧ Below w.heap.size w w' := by
  have HXS := Lib.hid hx
  have HB := Lib.hid hb
  have HW : Hid (∀ w : World, Calls Try.prog 9 #[] w fun e w' => e = .returned (.bool true) ∧ Below w.heap.size w w') := Lib.hid hwk
  have M7 : Hid (moreW 7#32 [] = 7#32) := Lib.hid (by decide)
  have n7 : Hid (nb 7#32 = 7) := Lib.hid rfl
  have n0 : Hid (nb (moreW 0 []) = 0) := Lib.hid (by show nb (moreW 0#32 []) = 0; rw [more_nil]; rfl)
  clear hx hb hwk
  go_enter Try.func7, Try.ntmps7
  go_wp2_with (first
    | (go_at_call 9; (with_reducible refine (HW.out _).mono ?_); rintro e w1 ⟨rfl, hb1⟩)
    | (go_at_call 13; (with_reducible refine (few_calls _ _ _ (HB.out.below hb1)).mono ?_); rintro e w2 ⟨v2, rfl, ho2, hb2⟩; rw [HXS.out] at ho2; obtain ⟨A2, c2, rfl⟩ := bys_len ho2.bys; simp only [List.length_nil] at ho2 ⊢)
    | (go_at_call 20; (with_reducible refine (sum1_calls _ [] w2 _ rfl ho2.bys).mono ?_); rintro e w3 ⟨rfl, hb3⟩; rw [n0.out])
    | (go_at_call 22; (rw [← n7.out]; refine (mor_calls 7#32 _ _ [] _ (((ho2.bys.below (below_al (Below.refl _ _) _)).below hb3))).mono ?_); rintro e w4 ⟨rfl, hb4⟩; rw [M7.out, n7.out])
    | fail)
  go_ret
  exact ⟨rfl, below_tr (below_tr (below_al (below_tr hb1 hb2) _) hb3) hb4⟩
set_option maxRecDepth 100000 in
set_option maxHeartbeats 4000000 in
theorem parts_some (hwk : WakesOk) (v : Value) (bs x : List B8) (b : Int) (y : B8) (w : World) (hb : Bys w v bs) (hx : bs.take 400 = x) (h0 : 0 < x.length) :
    Calls Try.prog 7 #[v, .int .i64 b, .int .u8 (bn y)] w fun e w' => e = .returned (.bool true) ∧ Below w.heap.size w w' := by
  have hxl : x.length ≤ 400 := by rw [← hx, List.length_take]; omega
  have HXS := Lib.hid hx
  have HB := Lib.hid hb
  have HW : Hid (∀ w : World, Calls Try.prog 9 #[] w fun e w' => e = .returned (.bool true) ∧ Below w.heap.size w w') := Lib.hid hwk
  clear hx hb hwk
  have hN : within b x.length < x.length := within_lt _ _ h0
  generalize hNN : within b x.length = N at *
  generalize hMM : (b % 18446744073709551616).toNat = M
  have hF1 : nb (moreW (moreW 0 (x.take N)) (x.drop N)) = nb (moreW 0 x) := by rw [more_append, List.take_append_drop]
  have hF2 : nb (moreW 0 (x.take N ++ x.drop N)) = nb (moreW 0 x) := by rw [List.take_append_drop]
  have hst : nb (moreW 0 (x.set N y)) = nb (moreW 0 x) ↔ y = byteAt x N := ⟨fun h => (more_set 0 x N hN y).1 (nb_inj h), fun h => by rw [(more_set 0 x N hN y).2 h]⟩
  have hyb : bn y = bn (byteAt x N) ↔ y = byteAt x N := ⟨bn_inj, fun h => by rw [h]⟩
  generalize hR : moreW 0 (x.take N) = R at *
  generalize hp : nb (moreW 0 x) = p at *
  generalize hq : nb (moreW 0 (x.set N y)) = q at *
  have HST := Lib.hid hst
  have HYB := Lib.hid hyb
  have HF1 := Lib.hid hF1
  have HF2 := Lib.hid hF2
  have HR := Lib.hid hR
  have HP := Lib.hid hp
  have HQ := Lib.hid hq
  have H0 := Lib.hid h0
  have HN := Lib.hid hN
  have HXL := Lib.hid hxl
  generalize hn : x.length = n at *
  have HLN := Lib.hid hn
  have i0 : (0 : Int) ≤ (N : Int) := by omega
  have i1 : (N : Int) ≤ (n : Int) := by omega
  have i3 : (N : Int) < (n : Int) := by omega
  have e0 : IntKind.u64.wrap b = (M : Int) := by rw [IntKind.wrap_u64]; omega
  have e2 : IntKind.u64.wrap (n : Int) = (n : Int) := by rw [IntKind.wrap_u64]; omega
  have e3 : ((n : Int) = 0) = False := eq_false (by omega)
  have e9 : (n = 0) = False := eq_false (by omega)
  have ez : ((n : Int) == 0) = false := by simp; omega
  have e4 : (M : Int) % (n : Int) = (N : Int) := by rw [← hNN, ← hMM]; rfl
  have e5 : Int.tmod (M : Int) (n : Int) = (N : Int) := by rw [Int.tmod_eq_emod_of_nonneg (by omega)]; exact e4
  have e6 : IntKind.i64.wrap (N : Int) = (N : Int) := by rw [IntKind.wrap_i64]; omega
  have e8 : wrap64 (N : Int) = (N : Int) := by rw [wrap64]; omega
  clear hst hyb hF1 hF2 hR hp hq h0 hN hxl hn hNN hMM
  go_enter Try.func7, Try.ntmps7
  go_upto_region 8 with (first
    | (go_at_call 9; (with_reducible refine (HW.out _).mono ?_); rintro e w1 ⟨rfl, hb1⟩)
    | (go_at_call 13; (with_reducible refine (few_calls _ _ _ (HB.out.below hb1)).mono ?_); rintro e w2 ⟨v2, rfl, ho2, hb2⟩; rw [HXS.out] at ho2; obtain ⟨g, cap, rfl, hg1, hg2, hc1, hc2⟩ := own8_some ho2 (by have h0' := H0.out; have hl' := HLN.out; rw [hl']; exact h0'); simp only [HLN.out] at ho2 hc1 ⊢)
    | (go_at_call 20; (with_reducible refine (sum_E1 w2 _ (.slice (some ⟨g, 0, none⟩) n cap) x _ ?_ ?_ ?_).mono ?_); (exact below_al (Below.refl _ _) _); (exact ho2.bys); (exact new_here w2 _); rintro e w5 ⟨rfl, hb5⟩; rw [HP.out])
    | fail)
  have hgw : w.heap.size ≤ g := Nat.le_trans hb1.size hg1
  have HGW := Lib.hid hgw
  clear hgw
  have hL5 := ho2.bys.below hb5
  have HL5 := Lib.hid hL5
  have hT5 : Bys w5 (.slice (some ⟨g, 0, none⟩) N cap) (x.take N) := hL5.take N (by have := HN.out; have := HLN.out; omega)
  have HT5 := Lib.hid hT5
  have i2 : (N : Int) ≤ (cap : Int) := by have := HN.out; have := HLN.out; omega
  have e10 : (cap = N) = False := eq_false (by have := HN.out; have := HLN.out; omega)
  have i4 : (n : Int) ≤ (cap : Int) := by omega
  have HO2 := Lib.hid ho2
  have HB5 := Lib.hid hb5
  have hch := below_tr hb1 hb2
  have HCH := Lib.hid hch
  clear hL5 hT5 ho2 hb5 hb1 hb2 hch
  have hD5 : Bys w5 (.slice (some ⟨g, 0 + N, none⟩) (n - N) (cap - N)) (x.drop N) := HL5.out.drop N (n - N) (cap - N) (by omega) rfl
  rw [Nat.zero_add] at hD5
  have HD5 := Lib.hid hD5
  have hdl : n - N = (x.drop N).length := by rw [List.length_drop, HLN.out]
  have HDL := Lib.hid hdl
  clear hD5 hdl
  go_region_held3 (fun W => Below w5.heap.size w5 W) ((repeat (with_reducible first | exact Below.refl _ _ | apply below_dr | apply below_dn | apply below_al | assumption))) (first
    | (go_at_call 20; (with_reducible refine (sum_E1 w5 _ (.slice (some ⟨g, 0, none⟩) N cap) (x.take N) _ ?_ HT5.out ?_).mono ?_); (repeat (with_reducible first | exact Below.refl _ _ | apply below_dr | apply below_dn | apply below_al | assumption)); (exact new_here _ _); rintro e w6 ⟨rfl, hb6⟩; rw [HR.out])
    | (go_at_call 22; (with_reducible refine (mor_E w5 R _ _ _ (x.drop N) _ ?_ HDL.out HD5.out).mono ?_); (repeat (with_reducible first | exact Below.refl _ _ | apply below_dr | apply below_dn | apply below_al | assumption)); rintro e w7 ⟨rfl, hb7⟩; rw [HF1.out])
    | (go_at_call 20; (with_reducible refine (sum_E2 w5 _ (.slice (some ⟨g, 0, none⟩) N cap) (.slice (some ⟨g, N, none⟩) (n - N) (cap - N)) (x.take N) (x.drop N) _ ?_ HT5.out HD5.out ?_).mono ?_); (repeat (with_reducible first | exact Below.refl _ _ | apply below_dr | apply below_dn | apply below_al | assumption)); (exact new_here _ _); rintro e w8 ⟨rfl, hb8⟩; rw [HF2.out])
    | fail)
  obtain ⟨c8, f8, ho9⟩ := own8_set ((HO2.out.below HB5.out).below hb8) HLN.out.symm N (by have h1 := HN.out; have h2 := HLN.out; rw [h2]; exact h1) y
  have h8 := below_tr (below_tr HCH.out HB5.out) hb8
  have h9 : Below w.heap.size w (w8.setCell ⟨g, N, none⟩ (.int .u8 (bn y))) := h8.setCell (p := ⟨g, N, none⟩) HGW.out _
  have HO9 := Lib.hid ho9
  have HB9 := Lib.hid h9
  clear ho9 h8 h9 hb8
  by_cases hy : y = byteAt x N
  · have hq2 : (q == p) = true := by simp [HST.out.2 hy]
    have hy2 : (bn y == bn (byteAt x N)) = true := by simp [hy]
    have hq3 : q = p := HST.out.2 hy
    have HQ3 := Lib.hid hq3
    clear hy hq3
    go_wp2_with (first
      | (go_at_call 20; (with_reducible refine (sum_E1 (w8.setCell ⟨g, N, none⟩ (.int .u8 (bn y))) _ (.slice (some ⟨g, 0, none⟩) n cap) (x.set N y) _ ?_ HO9.out.bys ?_).mono ?_); (exact below_al (Below.refl _ _) _); (rw [heap_alloc_if, World.size_setCell, if_pos rfl]); rintro e w10 ⟨rfl, hb10⟩; rw [HQ.out])
      | fail)
    go_ret
    exact ⟨rfl, below_tr HB9.out hb10⟩
  · have hq2 : (q == p) = false := by simpa using fun h => hy (HST.out.1 h)
    have hy2 : (bn y == bn (byteAt x N)) = false := by simpa using fun h => hy (HYB.out.1 h)
    clear hy
    go_wp2_with (first
      | (go_at_call 20; (with_reducible refine (sum_E1 (w8.setCell ⟨g, N, none⟩ (.int .u8 (bn y))) _ (.slice (some ⟨g, 0, none⟩) n cap) (x.set N y) _ ?_ HO9.out.bys ?_).mono ?_); (exact below_al (Below.refl _ _) _); (rw [heap_alloc_if, World.size_setCell, if_pos rfl]); rintro e w10 ⟨rfl, hb10⟩; rw [HQ.out])
      | fail)
    go_ret
    exact ⟨rfl, below_tr HB9.out hb10⟩
theorem parts_calls (hwk : WakesOk) (v : Value) (bs : List B8) (b : Int) (y : B8) (w : World) (hb : Bys w v bs) :
    Calls Try.prog 7 #[v, .int .i64 b, .int .u8 (bn y)] w fun e w' => e = .returned (.bool true) ∧ Below w.heap.size w w' := by
  by_cases h : bs.take 400 = []
  · exact parts_nil hwk v bs b y w hb h
  · exact parts_some hwk v bs _ b y w hb rfl (List.length_pos_iff.2 h)
end Go.Proofs.Ytekbjgnlaompbaa
