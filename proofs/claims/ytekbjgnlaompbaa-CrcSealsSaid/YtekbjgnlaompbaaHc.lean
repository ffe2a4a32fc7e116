/- The law of seals: the walk. -/
import Derived.Test.YtekbjgnlaompbaaHb
import Derived.Deep.DeepCutAuto
import Derived.Deep.CutBlock
namespace Go.Proofs.Ytekbjgnlaompbaa
open Go.RowKit
set_option linter.unusedSimpArgs false
set_option linter.unusedVariables false
theorem own8_shape {w : World} {B : Nat} {v : Value} {bs : List B8} (h : Own8 w B v bs) : ∃ A c, v = .slice A bs.length c ∧ (0 < bs.length → ∃ g, A = some ⟨g, 0, none⟩ ∧ B ≤ g) := by
  obtain ⟨A, c, e⟩ := bys_len h.bys
  refine ⟨A, c, e, fun h0 => ?_⟩
  obtain ⟨g, cap, e2, hg, _⟩ := own8_some h h0
  rw [e] at e2
  cases e2
  exact ⟨g, rfl, hg⟩
theorem own8_len {w : World} {B : Nat} {v : Value} {bs : List B8} (h : Own8 w B v bs) : bs.length ≤ 9223372036854775807 := by
  obtain ⟨A, c, e, h1, h2, _⟩ := h.bys
  unfold maxLen at h2
  omega
theorem pair_kept {wr wa : World} {a b : Value} (h : Below (wr.alloc (.cells #[a, b] 25)).heap.size (wr.alloc (.cells #[a, b] 25)) wa) : wa.cell? ⟨wr.heap.size, 1, none⟩ = some b :=
  cell_of_heap ((h.block _ (by simp)).trans (new_here wr _))
theorem bys_nil_of {w : World} {bs : List B8} (h : bs = []) : Bys w (.slice none 0 0) bs := by
  subst h
  exact ⟨none, 0, rfl, Nat.le_refl _, by simp [maxLen], fun _ => rfl, fun h => by simp at h⟩
/-- bytes, what is sealed and what is opened, each in blocks of its own -/
structure EndR (w : World) (B2 B5 : Nat) (vb vs vg : Value) (x ns gs : List B8) (W : World) : Prop where
  b : Own8 W 0 vb x
  bl : ∀ k, vb.ownBlock = some k → k < B2
  s : Own8 W B2 vs ns
  sl : ∀ k, vs.ownBlock = some k → k < B5
  g : Own8 W B5 vg gs
  le : w.heap.size ≤ B2
  le5 : B2 ≤ B5
  below : Below w.heap.size w W
theorem EndR.go {w W W' : World} {B2 B5 : Nat} {vb vs vg : Value} {x ns gs : List B8} (h : EndR w B2 B5 vb vs vg x ns gs W) (hb : Below W.heap.size W W') : EndR w B2 B5 vb vs vg x ns gs W' :=
  ⟨h.b.below hb, h.bl, h.s.below hb, h.sl, h.g.below hb, h.le, h.le5, below_tr h.below hb⟩
theorem own8_other {w : World} {B g j : Nat} {v y : Value} {bs : List B8} (h : Own8 w B v bs) (hne : ∀ k, v.ownBlock = some k → k ≠ g) : Own8 (w.setCell ⟨g, j, none⟩ y) B v bs :=
  h.mod (L := [g]) ((Mod.refl [g] w).setCell (by simp) y) (fun k hk hm => hne k hk (by simpa using hm))
theorem EndR.setS {w W : World} {B2 B5 g n cap : Nat} {vb vg : Value} {x ns gs : List B8} (h : EndR w B2 B5 vb (.slice (some ⟨g, 0, none⟩) n cap) vg x ns gs W) (hn : n = ns.length) (j : Nat) (hj : j < ns.length) (y : B8) :
    W.cell? ⟨g, j, none⟩ = some (.int .u8 (bn (byteAt ns j))) ∧ W.frozen? ⟨g, j, none⟩ = false ∧ EndR w B2 B5 vb (.slice (some ⟨g, 0, none⟩) n cap) vg x (ns.set j y) gs (W.setCell ⟨g, j, none⟩ (.int .u8 (bn y))) := by
  obtain ⟨h1, h2, h3⟩ := own8_set h.s hn j hj y
  have hg := h.s.lt g rfl
  have hg5 := h.sl g rfl
  have hle := h.le
  refine ⟨h1, h2, own8_other h.b (fun k hk => ?_), h.bl, h3, h.sl, own8_other h.g (fun k hk => ?_), h.le, h.le5, h.below.setCell (p := ⟨g, j, none⟩) (Nat.le_trans hle hg.1) _⟩
  · have := h.bl k hk
    omega
  · have := h.g.lt k hk
    omega
theorem EndR.setG {w W : World} {B2 B5 g n cap : Nat} {vb vs : Value} {x ns gs : List B8} (h : EndR w B2 B5 vb vs (.slice (some ⟨g, 0, none⟩) n cap) x ns gs W) (hn : n = gs.length) (j : Nat) (hj : j < gs.length) (y : B8) :
    W.cell? ⟨g, j, none⟩ = some (.int .u8 (bn (byteAt gs j))) ∧ W.frozen? ⟨g, j, none⟩ = false ∧ EndR w B2 B5 vb vs (.slice (some ⟨g, 0, none⟩) n cap) x ns (gs.set j y) (W.setCell ⟨g, j, none⟩ (.int .u8 (bn y))) := by
  obtain ⟨h1, h2, h3⟩ := own8_set h.g hn j hj y
  have hg := h.g.lt g rfl
  have hle := h.le
  have hle5 := h.le5
  refine ⟨h1, h2, own8_other h.b (fun k hk => ?_), h.bl, own8_other h.s (fun k hk => ?_), h.sl, h3, h.le, h.le5, h.below.setCell (p := ⟨g, j, none⟩) (Nat.le_trans hle (Nat.le_trans hle5 hg.1)) _⟩
  · have := h.bl k hk
    omega
  · have := h.sl k hk
    omega
set_option maxRecDepth 100000 in
set_option maxHeartbeats 4000000 in
theorem seals_calls (hwk : WakesOk) (v0 v1 : Value) (bs : List B8) (ps : List (W32 × W32)) (w : World) (hb : Bys w v0 bs) (hp : Prs w v1 ps) :
    Calls Try.prog 4 #[v0, v1] w fun e w' => e = .returned (.bool true) ∧ Below w.heap.size w w' := by
  obtain ⟨A1, cap1, rfl, hl1, hc1⟩ := hp
  unfold maxLen at hl1
  have HC1 := Lib.hid hc1
  have HB := Lib.hid hb
  have HW : Hid (∀ w : World, Calls Try.prog 9 #[] w fun e w' => e = .returned (.bool true) ∧ Below w.heap.size w w') := Lib.hid hwk
  have hxl : (bs.take 400).length ≤ 400 := by rw [List.length_take]; omega
  generalize hxs : bs.take 400 = x at hxl
  have hS : (sealW x).length = x.length + 4 := sealW_length x
  have hsr : sealR x = sealW x := sealR_eq x
  generalize hSS : sealW x = S at hS hsr
  generalize hK : (openedW x).isSome = K
  generalize hgl : (openedW x).getD [] = gl
  obtain ⟨E, hE⟩ : ∃ E : Int, E = if K then 0 else 120 := ⟨_, rfl⟩
  have HXS := Lib.hid hxs
  have HSR := Lib.hid hsr
  have HSS := Lib.hid hSS
  have HK := Lib.hid hK
  have HGL := Lib.hid hgl
  have HE := Lib.hid hE
  have HX4 : Hid (x.length ≤ 1099511627776) := Lib.hid (by omega)
  have HS4 : Hid (S.length ≤ 1099511627776) := Lib.hid (by omega)
  have hEK : (E == (0 : Int)) = K := by rw [hE]; cases K <;> rfl
  have hE2 : (E != (0 : Int)) = !K := by rw [hE]; cases K <;> rfl
  have hE3 : K = false → (E != (120 : Int)) = false := by
    intro h
    rw [hE, h]
    rfl
  clear hc1 hb hwk hxl hxs hS hsr hSS hK hgl hE
  have key : ∀ (K : Bool) (E : Int), (E == (0 : Int)) = K → (E != (0 : Int)) = !K → (K = false → (E != (120 : Int)) = false) → True := fun _ _ _ _ _ => trivial
  clear key
  go_enter Try.func4, Try.ntmps4
  go_upto_block 0 with (first
    | (go_at_call 9; (with_reducible refine (HW.out _).mono ?_); rintro e w1 ⟨rfl, hb1⟩)
    | (go_at_call 13; (with_reducible refine (few_calls _ _ _ (HB.out.below hb1)).mono ?_); rintro e w2 ⟨v2, rfl, ho2, hb2⟩; rw [HXS.out] at ho2; obtain ⟨A2, c2, rfl, hs2⟩ := own8_shape ho2)
    | (go_at_call 14; (with_reducible refine (seal_calls _ _ _ ho2.bys HX4.out).mono ?_); rintro e w3 ⟨v3, rfl, ho3, hb3⟩; rw [HSS.out] at ho3; obtain ⟨A3, c3, rfl, hs3⟩ := own8_shape ho3)
    | (go_at_call 15; (with_reducible refine (rseal_calls _ _ _ (ho2.bys.below hb3) HX4.out).mono ?_); rintro e w4 ⟨v4, rfl, ho4, hb4⟩; rw [HSR.out] at ho4)
    | (go_at_call 11; (with_reducible refine (equal_same _ _ S _ (ho3.bys.below hb4) ho4.bys).mono ?_); rintro e w5 ⟨rfl, n5, h5⟩; (have hb5 := below_dn (Below.refl w4.heap.size w4) n5); rw [← h5] at hb5; clear h5)
    | (go_at_call 16; (with_reducible refine (openG _ x gl K E _ HK.out HGL.out HE.out (((ho2.bys.below hb3).below hb4).below hb5) HX4.out).mono ?_); rintro e w6 ⟨v6, rfl, ho6, hb6⟩; obtain ⟨A6, c6, rfl, hs6⟩ := own8_shape ho6)
    | (go_at_call 17; (with_reducible refine (ropenG _ x gl K _ HK.out HGL.out ((((ho2.bys.below hb3).below hb4).below hb5).below hb6) HX4.out).mono ?_); rintro e w7 ⟨v7, rfl, ho7, hb7⟩)
    | (go_at_call 11; (with_reducible refine (equal_same _ _ gl _ (ho6.bys.below hb7) ho7.bys).mono ?_); rintro e w8 ⟨rfl, n8, h8⟩; (have hb8 := below_dn (Below.refl w7.heap.size w7) n8); rw [← h8] at hb8; clear h8)
    | fail)
  all_goals
    have hB := (((ho2.below hb3).below hb4).below hb5)
    have hOb : Own8 w8 w1.heap.size (.slice A2 x.length c2) x := ((hB.below hb6).below hb7).below hb8
    have hOs : Own8 w8 w2.heap.size (.slice A3 S.length c3) S := ((((ho3.below hb4).below hb5).below hb6).below hb7).below hb8
    have hOg : Own8 w8 w5.heap.size (.slice A6 gl.length c6) gl := (ho6.below hb7).below hb8
    have h28 : Below w2.heap.size w2 w8 := below_tr (below_tr (below_tr (below_tr (below_tr hb3 hb4) hb5) hb6) hb7) hb8
    have h08 : Below w.heap.size w w8 := below_tr (below_tr hb1 hb2) h28
    have hEnd : EndR w w2.heap.size w5.heap.size (.slice A2 x.length c2) (.slice A3 S.length c3) (.slice A6 gl.length c6) x S gl w8 :=
      ⟨hOb.base (Nat.zero_le _), fun k hk => (ho2.lt k hk).2, hOs, fun k hk => Nat.lt_of_lt_of_le (ho3.lt k hk).2 (Nat.le_trans hb4.size hb5.size), hOg, Nat.le_trans hb1.size hb2.size, Nat.le_trans hb3.size (Nat.le_trans hb4.size hb5.size), h08⟩
    have HEND := Lib.hid hEnd
    have HOB := Lib.hid hOb
    have HOS := Lib.hid hOs
    have HOG := Lib.hid hOg
    have H28 := Lib.hid h28
    have H08 := Lib.hid h08
    clear hEnd hB hOb hOs hOg h28 h08 ho2 ho3 ho4 ho6 ho7 hb3 hb4 hb5 hb6 hb7 hb8
    go_cut [] (fun W => Below w8.heap.size w8 W)
    case first =>
      go_wp2_with fail
      go_loopw [62, 11, 12, 13, 14, 15, 16, 17, 18] (fun i _ _ _ _ _ _ _ _ wr => ∃ k : Nat, k ≤ ps.length ∧ k ≤ 8 ∧ i = .int .i64 k ∧ Below w8.heap.size w8 wr) (fun i _ _ _ _ _ _ _ _ _ => 9 - (intOf i).toNat)
      case atStart => exact ⟨0, by omega, by omega, rfl, Below.refl _ _⟩
      case round =>
        obtain ⟨k, hk, hk8, rfl, hbr⟩ := hrel
        by_cases hlt : k < ps.length
        · have hd : decide (k < ps.length) = true := by simpa using hlt
          obtain ⟨b, off, rfl, hcell⟩ := HC1.out (by omega)
          obtain ⟨c0, c1⟩ := hcell k hlt
          have hbw := below_tr H08.out hbr
          have d0 := (hbw.cell (p := ⟨b, off + k * 2, none⟩) (World.block_lt_of_cell? w _ c0)).trans c0
          have d1 := (hbw.cell (p := ⟨b, off + k * 2 + 1, none⟩) (World.block_lt_of_cell? w _ c1)).trans c1
          generalize (ps.getD k (0, 0)).1 = p0 at *
          generalize (ps.getD k (0, 0)).2 = y at *
          have i0 : (0 : Int) ≤ (k : Int) := by omega
          have i1 : (k : Int) < (ps.length : Int) := by omega
          have HBR := Lib.hid hbr
          clear hcell c0 c1 hbr hbw
          by_cases h8 : k = 8
          · subst h8
            go_wp2
            go_meet
            exact HBR.out.alloc HBR.out.size _
          · have h8' : ((k : Int) == 8) = false := by simp; omega
            have hr0 := nb_range p0
            obtain ⟨Bv, hBv⟩ : ∃ Bv, Bv = nb p0 - 2 := ⟨_, rfl⟩
            have q1 : IntKind.i64.wrap (nb p0) = nb p0 := by rw [IntKind.wrap_i64]; omega
            have q2 : IntKind.i64.wrap (nb p0 - 2) = Bv := by rw [IntKind.wrap_i64]; omega
            have q3 : wrap64 (nb p0 - 2) = Bv := by rw [← hBv, wrap64]; omega
            generalize hK2 : (spoilI S Bv y).isSome = K2
            generalize hnl : (spoilI S Bv y).getD [] = nl
            obtain ⟨E2, hE2'⟩ : ∃ E : Int, E = if K2 then 0 else 2 := ⟨_, rfl⟩
            have HK2 := Lib.hid hK2
            have HNL := Lib.hid hnl
            have HEE := Lib.hid hE2'
            have hnil : Hid (K2 = false → nl = []) := Lib.hid (fun h => by
              rw [h] at hK2
              rw [← hnl]
              cases hh : spoilI S Bv y with
              | none => rfl
              | some l => rw [hh] at hK2; cases hK2)
            clear hK2 hnl hE2' hBv hr0
            cases K2
            · have hE2 : E2 = 2 := HEE.out
              have hnil2 : nl = [] := hnil.out rfl
              have HNIL := Lib.hid hnil2
              clear hnil2
              subst hE2
              go_wp2_with (first
                | (go_at_call 18; (with_reducible refine (spoilG _ S nl Bv y false _ _ HK2.out HNL.out HEE.out ((HOS.out.bys.below HBR.out).below (below_al (Below.refl _ _) _)) HS4.out).mono ?_); rintro e wa ⟨va, rfl, hoa, hba⟩; (have q4 := pair_kept hba); obtain ⟨AN, CN, rfl, hsn⟩ := own8_shape hoa)
                | (go_at_call 19; (with_reducible refine (rspoilG _ S nl Bv y false _ HK2.out HNL.out (((HOS.out.bys.below HBR.out).below (below_al (Below.refl _ _) _)).below hba) HS4.out).mono ?_); rintro e wb ⟨vb, rfl, hob, hbb⟩)
                | (go_at_call 11; (with_reducible refine (equal_same _ _ nl _ (hoa.bys.below hbb) (bys_nil_of HNIL.out)).mono ?_); rintro e wc ⟨rfl, nc, hc⟩; (have hbc := below_dn (Below.refl wb.heap.size wb) nc); rw [← hc] at hbc; clear hc)
                | fail)
              have hwa := HBR.out.alloc HBR.out.size (.cells #[.int .u32 (nb p0), .int .u32 (nb y)] 25)
              have hon := ((hoa.below hbb).below hbc).base (B' := w8.heap.size) hwa.size
              have hbn := below_tr (below_tr (below_tr hwa hba) hbb) hbc
              have hsn' : 0 < nl.length → ∃ g, AN = some ⟨g, 0, none⟩ ∧ w8.heap.size ≤ g := fun h => by
                obtain ⟨g, e, hg⟩ := hsn h
                exact ⟨g, e, Nat.le_trans hwa.size hg⟩
              have HON := Lib.hid hon
              have HBN := Lib.hid hbn
              have HSN := Lib.hid hsn'
              clear hwa hon hbn hsn hsn' hoa hba hbb hbc hob
              go_loopw [111, 18] (fun i _ wq => ∃ (j : Nat) (ns : List B8), j ≤ nl.length ∧ i = .int .i64 j ∧ ns.length = nl.length ∧ Own8 wq w8.heap.size (.slice AN nl.length CN) ns ∧ Below w8.heap.size w8 wq) (fun i _ _ => nl.length - (intOf i).toNat)
              case atStart => exact ⟨0, nl, by omega, rfl, rfl, HON.out, HBN.out⟩
              case round =>
                obtain ⟨j, ns, hj, rfl, hns, hon, hbn⟩ := hrel
                by_cases hlj : j < nl.length
                · have hd9 : decide (j < nl.length) = true := by simpa using hlj
                  obtain ⟨g, rfl, hg⟩ := HSN.out (by omega)
                  obtain ⟨cj, fj, hoj⟩ := own8_set hon hns.symm j (by omega) (byteAt ns j + 1#8)
                  have hib := inc_bn (byteAt ns j)
                  have hjb := own8_len hon
                  rw [hns] at hjb
                  have hbj := hbn.setCell (p := ⟨g, j, none⟩) hg (.int .u8 (bn (byteAt ns j + 1#8)))
                  have HOJ := Lib.hid hoj
                  have HBJ := Lib.hid hbj
                  have HNS := Lib.hid hns
                  have i8 : (0 : Int) ≤ (j : Int) := by omega
                  have i9 : (j : Int) < (nl.length : Int) := by omega
                  clear hoj hbj hon hbn hns
                  go_wp2
                  go_roundw
                  case rel => exact ⟨j + 1, ns.set j (byteAt ns j + 1#8), by omega, by go_num, by rw [List.length_set]; exact HNS.out, HOJ.out, HBJ.out⟩
                  case measure => simp [intOf]; omega
                · have hd9 : decide (j < nl.length) = false := by simpa using hlj
                  have HBQ := Lib.hid hbn
                  clear hon hbn hns
                  go_wp2
                  go_roundw
                  case rel => exact ⟨k + 1, by omega, by omega, by go_num, HBQ.out⟩
                  case measure => simp [intOf]; omega
            · have hE2 : E2 = 0 := HEE.out
              subst hE2
              go_wp2_with (first
                | (go_at_call 18; (with_reducible refine (spoilG _ S nl Bv y true _ _ HK2.out HNL.out HEE.out ((HOS.out.bys.below HBR.out).below (below_al (Below.refl _ _) _)) HS4.out).mono ?_); rintro e wa ⟨va, rfl, hoa, hba⟩; (have q4 := pair_kept hba); obtain ⟨AN, CN, rfl, hsn⟩ := own8_shape hoa)
                | (go_at_call 19; (with_reducible refine (rspoilG _ S nl Bv y true _ HK2.out HNL.out (((HOS.out.bys.below HBR.out).below (below_al (Below.refl _ _) _)).below hba) HS4.out).mono ?_); rintro e wb ⟨vb, rfl, hob, hbb⟩; (have hob2 := hob rfl); (have HOB2 := Lib.hid hob2); clear hob2)
                | (go_at_call 11; (with_reducible refine (equal_same _ _ nl _ (hoa.bys.below hbb) HOB2.out).mono ?_); rintro e wc ⟨rfl, nc, hc⟩; (have hbc := below_dn (Below.refl wb.heap.size wb) nc); rw [← hc] at hbc; clear hc)
                | fail)
              have hwa := HBR.out.alloc HBR.out.size (.cells #[.int .u32 (nb p0), .int .u32 (nb y)] 25)
              have hon := ((hoa.below hbb).below hbc).base (B' := w8.heap.size) hwa.size
              have hbn := below_tr (below_tr (below_tr hwa hba) hbb) hbc
              have hsn' : 0 < nl.length → ∃ g, AN = some ⟨g, 0, none⟩ ∧ w8.heap.size ≤ g := fun h => by
                obtain ⟨g, e, hg⟩ := hsn h
                exact ⟨g, e, Nat.le_trans hwa.size hg⟩
              have HON := Lib.hid hon
              have HBN := Lib.hid hbn
              have HSN := Lib.hid hsn'
              clear hwa hon hbn hsn hsn' hoa hba hbb hbc hob
              go_loopw [111, 18] (fun i _ wq => ∃ (j : Nat) (ns : List B8), j ≤ nl.length ∧ i = .int .i64 j ∧ ns.length = nl.length ∧ Own8 wq w8.heap.size (.slice AN nl.length CN) ns ∧ Below w8.heap.size w8 wq) (fun i _ _ => nl.length - (intOf i).toNat)
              case atStart => exact ⟨0, nl, by omega, rfl, rfl, HON.out, HBN.out⟩
              case round =>
                obtain ⟨j, ns, hj, rfl, hns, hon, hbn⟩ := hrel
                by_cases hlj : j < nl.length
                · have hd9 : decide (j < nl.length) = true := by simpa using hlj
                  obtain ⟨g, rfl, hg⟩ := HSN.out (by omega)
                  obtain ⟨cj, fj, hoj⟩ := own8_set hon hns.symm j (by omega) (byteAt ns j + 1#8)
                  have hib := inc_bn (byteAt ns j)
                  have hjb := own8_len hon
                  rw [hns] at hjb
                  have hbj := hbn.setCell (p := ⟨g, j, none⟩) hg (.int .u8 (bn (byteAt ns j + 1#8)))
                  have HOJ := Lib.hid hoj
                  have HBJ := Lib.hid hbj
                  have HNS := Lib.hid hns
                  have i8 : (0 : Int) ≤ (j : Int) := by omega
                  have i9 : (j : Int) < (nl.length : Int) := by omega
                  clear hoj hbj hon hbn hns
                  go_wp2
                  go_roundw
                  case rel => exact ⟨j + 1, ns.set j (byteAt ns j + 1#8), by omega, by go_num, by rw [List.length_set]; exact HNS.out, HOJ.out, HBJ.out⟩
                  case measure => simp [intOf]; omega
                · have hd9 : decide (j < nl.length) = false := by simpa using hlj
                  have HBQ := Lib.hid hbn
                  clear hon hbn hns
                  go_wp2
                  go_roundw
                  case rel => exact ⟨k + 1, by omega, by omega, by go_num, HBQ.out⟩
                  case measure => simp [intOf]; omega
        · have hd : decide (k < ps.length) = false := by simpa using hlt
          go_wp2
          go_meet
          exact hbr
    case rest =>
      have hrr := HEND.out.go hcut
      have HRC := Lib.hid hrr
      clear hcut hrr
      go_wp2_with (first
        | (go_at_call 15; (with_reducible refine (rseal_calls _ _ _ HRC.out.b.bys HX4.out).mono ?_); rintro e wd ⟨vd, rfl, hod, hbd⟩; rw [HSR.out] at hod)
        | (go_at_call 11; (with_reducible refine (equal_same _ _ S _ (HRC.out.s.bys.below hbd) hod.bys).mono ?_); rintro e we ⟨rfl, ne, he⟩; (have hbe := below_dn (Below.refl wd.heap.size wd) ne); rw [← he] at hbe; clear he)
        | fail)
      have hre := (HRC.out.go hbd).go hbe
      have HRE := Lib.hid hre
      clear hre hod hbd hbe
      go_loopw [129, 19] (fun i _ wq => ∃ (j : Nat) (ns : List B8), j ≤ S.length ∧ i = .int .i64 j ∧ ns.length = S.length ∧ EndR w w2.heap.size w5.heap.size (.slice A2 x.length c2) (.slice A3 S.length c3) (.slice A6 gl.length c6) x ns gl wq) (fun i _ _ => S.length - (intOf i).toNat)
      case atStart => exact ⟨0, S, by omega, rfl, rfl, HRE.out⟩
      case round =>
        obtain ⟨j, ns, hj, rfl, hns, hR⟩ := hrel
        by_cases hlj : j < S.length
        · have hd9 : decide (j < S.length) = true := by simpa using hlj
          obtain ⟨g, rfl, hg⟩ := hs3 (by omega)
          obtain ⟨cj, fj, hoj⟩ := hR.setS hns.symm j (by omega) (byteAt ns j + 1#8)
          have hib := inc_bn (byteAt ns j)
          have hjb := own8_len hR.s
          rw [hns] at hjb
          have HOJ := Lib.hid hoj
          have HNS := Lib.hid hns
          have i8 : (0 : Int) ≤ (j : Int) := by omega
          have i9 : (j : Int) < (S.length : Int) := by omega
          clear hoj hR hns
          go_wp2
          go_roundw
          case rel => exact ⟨j + 1, ns.set j (byteAt ns j + 1#8), by omega, by go_num, by rw [List.length_set]; exact HNS.out, HOJ.out⟩
          case measure => simp [intOf]; omega
        · have hd9 : decide (j < S.length) = false := by simpa using hlj
          have HR := Lib.hid hR
          clear hR hns
          go_wp2_with fail
          go_loopw [141, 20] (fun i _ wq => ∃ (j : Nat) (gs : List B8), j ≤ gl.length ∧ i = .int .i64 j ∧ gs.length = gl.length ∧ EndR w w2.heap.size w5.heap.size (.slice A2 x.length c2) (.slice A3 S.length c3) (.slice A6 gl.length c6) x ns gs wq) (fun i _ _ => gl.length - (intOf i).toNat)
          case atStart => exact ⟨0, gl, by omega, rfl, rfl, HR.out⟩
          case round =>
            obtain ⟨m, gs, hm, rfl, hgs, hQ⟩ := hrel
            by_cases hlm : m < gl.length
            · have hd8 : decide (m < gl.length) = true := by simpa using hlm
              obtain ⟨g, rfl, hg⟩ := hs6 (by omega)
              obtain ⟨cj, fj, hoj⟩ := hQ.setG hgs.symm m (by omega) (byteAt gs m + 1#8)
              have hib := inc_bn (byteAt gs m)
              have hjb := own8_len hQ.g
              rw [hgs] at hjb
              have HOJ := Lib.hid hoj
              have HNS := Lib.hid hgs
              have i8 : (0 : Int) ≤ (m : Int) := by omega
              have i9 : (m : Int) < (gl.length : Int) := by omega
              clear hoj hQ hgs
              go_wp2
              go_roundw
              case rel => exact ⟨m + 1, gs.set m (byteAt gs m + 1#8), by omega, by go_num, by rw [List.length_set]; exact HNS.out, HOJ.out⟩
              case measure => simp [intOf]; omega
            · have hd8 : decide (m < gl.length) = false := by simpa using hlm
              have HQ := Lib.hid hQ
              clear hQ hgs
              go_wp2_with (first
                | (go_at_call 13; (with_reducible refine (few_calls _ _ _ (HB.out.below HQ.out.below)).mono ?_); rintro e wf ⟨vf, rfl, hof, hbf⟩; rw [HXS.out] at hof)
                | (go_at_call 11; (with_reducible refine (equal_same _ _ x _ (HQ.out.b.bys.below hbf) hof.bys).mono ?_); rintro e wg ⟨rfl, ng, hng⟩; (have hbg := below_dn (Below.refl wf.heap.size wf) ng); rw [← hng] at hbg; clear hng)
                | fail)
              go_ret
              exact ⟨rfl, below_tr (below_tr HQ.out.below hbf) hbg⟩
end Go.Proofs.Ytekbjgnlaompbaa
