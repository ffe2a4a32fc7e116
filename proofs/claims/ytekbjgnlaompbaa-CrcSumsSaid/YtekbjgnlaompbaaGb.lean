/- The law of sums: the walk. -/
import Derived.Test.YtekbjgnlaompbaaGa
import Derived.Deep.DeepCutAuto
import Derived.Deep.CutBlock
namespace Go.Proofs.Ytekbjgnlaompbaa
open Go.RowKit
set_option linter.unusedSimpArgs false
set_option linter.unusedVariables false
/-- The slice v holds rows of bytes. -/
def RwsA (w : World) (v : Value) (rows : List (List B8)) : Prop :=
  ∃ A cap, v = .slice A rows.length cap ∧ rows.length ≤ maxLen ∧ (0 < rows.length → ∃ b off, A = some ⟨b, off, none⟩ ∧ ∀ j, j < rows.length → ∃ sv, w.cell? ⟨b, off + j, none⟩ = some sv ∧ Bys w sv (rows.getD j []))
/-- The slice v holds words. -/
def WdsA (w : World) (v : Value) (ws : List W32) : Prop :=
  ∃ A cap, v = .slice A ws.length cap ∧ ws.length ≤ maxLen ∧ (0 < ws.length → ∃ b off, A = some ⟨b, off, none⟩ ∧ ∀ j, j < ws.length → w.cell? ⟨b, off + j, none⟩ = some (.int .u32 (nb (ws.getD j 0#32))))
theorem cut_get (rows : List (List B8)) (j : Nat) (hj : j < rows.length) : (rows.map (·.take 400)).getD j [] = (rows.getD j []).take 400 := by
  simp [List.getD_eq_getElem?_getD, hj]
theorem flat_len (rows : List (List B8)) (k : Nat) (hk : k ≤ 6) : ((rows.map (·.take 400)).take k).flatten.length ≤ 2400 := by
  have h : ∀ (l : List (List B8)), (∀ r, r ∈ l → r.length ≤ 400) → l.flatten.length ≤ 400 * l.length := by
    intro l
    induction l with
    | nil => intro _; simp
    | cons a l ih =>
      intro h
      have h1 := h a (by simp)
      have h2 := ih fun r hr => h r (by simp [hr])
      simp only [List.flatten_cons, List.length_append, List.length_cons]
      omega
  have h1 := h ((rows.map (·.take 400)).take k) (by
    intro r hr
    have := List.mem_of_mem_take hr
    obtain ⟨a, _, rfl⟩ := List.mem_map.1 this
    rw [List.length_take]
    omega)
  rw [List.length_take] at h1
  omega
theorem fed_one (j : Nat) (hj : j < 256) (q : Int) (hq : nb (tabByte j) = q) (a : Nat) (W : World) (hW : W.heap[a]? = some (.cells #[.int .u8 (j : Int)] 5 (0, 0))) :
    Calls Try.prog 25 #[.int .u32 0, .slice (some ⟨a, 0, none⟩) 1 1] W fun e w' => e = .returned (.int .u32 q) ∧ W = w' := by
  have hj' : bn (BitVec.ofNat 8 j) = (j : Int) := by
    unfold bn
    rw [BitVec.toNat_ofNat, Nat.mod_eq_of_lt (by omega)]
  have hb : Bys W (.slice (some ⟨a, 0, none⟩) 1 1) [BitVec.ofNat 8 j] := bys_of_heap (bs := [BitVec.ofNat 8 j]) (t := 5) (by simp only [bvals, List.map_cons, List.map_nil, hj']; exact hW) (by simp [maxLen])
  have h := rfed_calls 0#32 _ _ W hb (by simp)
  rw [show nb 0#32 = 0 from rfl] at h
  refine h.mono ?_
  rintro e w' ⟨rfl, rfl⟩
  refine ⟨ret_int ?_, rfl⟩
  rw [← hq, tabByte_eq]
  rfl
theorem SumR.rws {W0 w : World} {rs : List (List B8)} {k : Nat} {v5 v6 : Value} (h : SumR W0 rs k v5 v6 w) (hk : k ≤ rs.length) (hk6 : k ≤ 6) : Rws w v6 (rs.take k) := by
  obtain ⟨vs, hv, ho⟩ := h.own
  have hl : (rs.take k).length = k := by rw [List.length_take]; omega
  rcases hv.2 with ⟨rfl, hn⟩ | ⟨g, cap, cur, rfl, hb, hg, hn, hm, hsz, ht⟩
  · subst hn
    exact ⟨none, 0, rfl, by simp, fun h => by simp at h⟩
  · refine ⟨some ⟨g, 0, none⟩, cap, by rw [hl], by rw [hl]; omega, fun _ => ⟨g, 0, rfl, fun j hj => ?_⟩⟩
    rw [hl] at hj
    obtain ⟨u, hu, hw, _⟩ := ho j hj
    have hc := World.ownsRow.cells hv rfl j u hu
    rw [add_plain] at hc
    refine ⟨u, by rw [Nat.zero_add]; exact hc, ?_⟩
    have hg : (rs.take k).getD j [] = rs.getD j [] := by
      rw [List.getD_eq_getElem?_getD, List.getD_eq_getElem?_getD, List.getElem?_take, if_pos hj]
    rw [hg]
    exact hw.bys
theorem SumR.step' {W0 w w1 w3 w4 w5 : World} {rs : List (List B8)} {k : Nat} {v5 v6 v1 v5' v6' : Value} {vs : List Value} {r : List B8} (hr : rs.getD k [] = r) (h : SumR W0 rs k v5 v6 w) (hk : k < rs.length)
    (hvs : w.ownsRow W0.heap.size 29 1 v6 k vs) (hold : ∀ j, j < k → ∃ u, vs[j]? = some u ∧ Own8 w W0.heap.size u (rs.getD j []) ∧ ∀ b, u.ownBlock = some b → v5.ownBlock ≠ some b ∧ v6.ownBlock ≠ some b)
    (hb1 : Below w.heap.size w w1) (h1 : Own8 w1 w.heap.size v1 r)
    (h3 : w3.ownsRow W0.heap.size 29 1 v6' (k + 1) (vs ++ [v1])) (g3 : (w1.alloc (.cells #[v1] 29)).grownBy w3 v6.ownBlock) (e3 : v6'.ownBlock = v6.ownBlock ∨ v6'.ownBlock = some (w1.heap.size + 1))
    (hb4 : Below w3.heap.size w3 w4) (h5 : Own8 w5 W0.heap.size v5' ((rs.take k).flatten ++ r)) (g5 : w4.grownBy w5 v5.ownBlock) (e5 : v5'.ownBlock = v5.ownBlock ∨ v5'.ownBlock = some w4.heap.size) :
    SumR W0 rs (k + 1) v5' v6' w5 := by
  subst hr
  exact h.step hk hvs hold hb1 h1 h3 g3 e3 hb4 h5 g5 e5
set_option maxRecDepth 100000 in
set_option maxHeartbeats 4000000 in
theorem sums_calls (hwk : WakesOk) (v0 v1 : Value) (rows : List (List B8)) (ws : List W32) (w : World) (hr : RwsA w v0 rows) (hw : WdsA w v1 ws) :
    Calls Try.prog 6 #[v0, v1] w fun e w' => e = .returned (.bool true) ∧ Below w.heap.size w w' := by
  obtain ⟨A0, cap0, rfl, hl0, hc0⟩ := hr
  obtain ⟨A1, cap1, rfl, hl1, hc1⟩ := hw
  unfold maxLen at hl0 hl1
  have HC0 := Lib.hid hc0
  have HC1 := Lib.hid hc1
  have HW : Hid (∀ w : World, Calls Try.prog 9 #[] w fun e w' => e = .returned (.bool true) ∧ Below w.heap.size w w') := Lib.hid hwk
  clear hc0 hc1 hwk
  go_enter Try.func6, Try.ntmps6
  go_upto_block 0 with (first
    | (go_at_call 9; (with_reducible refine (HW.out _).mono ?_); rintro e w1 ⟨rfl, hb1⟩)
    | fail)
  have HB1 := Lib.hid hb1
  clear hb1
  go_cut [5, 6] (fun x5 x6 W => ∃ k, k ≤ rows.length ∧ k ≤ 6 ∧ SumR w (rows.map (·.take 400)) k x5 x6 W)
  case first =>
    go_wp2
    go_loopw [19, 5, 6, 7, 8] (fun i x5 x6 _ _ wr => ∃ k : Nat, k ≤ rows.length ∧ k ≤ 6 ∧ i = .int .i64 k ∧ SumR w (rows.map (·.take 400)) k x5 x6 wr) (fun i _ _ _ _ _ => 7 - (intOf i).toNat)
    case atStart => exact ⟨0, by omega, by omega, rfl, SumR.start _ HB1.out⟩
    case round =>
      obtain ⟨k, hk, hk6, rfl, hS⟩ := hrel
      by_cases hlt : k < rows.length
      · have hd : decide (k < rows.length) = true := by simpa using hlt
        obtain ⟨b, off, rfl, hcell⟩ := HC0.out (by omega)
        obtain ⟨sv, hsv, hby⟩ := hcell k hlt
        have d0 := (hS.below.cell (p := ⟨b, off + k, none⟩) (World.block_lt_of_cell? w _ hsv)).trans hsv
        have hbr := hby.below hS.below
        have HBR := Lib.hid hbr
        have HBY := Lib.hid hby
        have i0 : (0 : Int) ≤ (k : Int) := by omega
        have i1 : (k : Int) < (rows.length : Int) := by omega
        have HS := Lib.hid hS
        clear hsv hby hcell hbr hS
        by_cases h6 : k = 6
        · subst h6
          go_wp2
          go_meet
          exact ⟨6, by omega, by omega, HS.out⟩
        · have h6' : ((k : Int) == 6) = false := by simp; omega
          obtain ⟨vs, hvs, hold⟩ := HS.out.own
          have HV := Lib.hid hvs
          have HO := Lib.hid hold
          have hg := cut_get rows k hlt
          generalize hr : (rows.map (·.take 400)).getD k [] = r at hg
          have HG := Lib.hid hg
          have HRR := Lib.hid hr
          have hrl : r.length ≤ 400 := by rw [hg, List.length_take]; omega
          have hfl := flat_len rows k hk6
          have hfr : ((rows.map (·.take 400)).take k).flatten.length + r.length ≤ 140737488355328 := by omega
          have HFR := Lib.hid hfr
          have hk1 : Hid (k ≤ 1000) := Lib.hid (by omega)
          clear hvs hold hg hfl hr hrl hfr
          go_wp2_with (first
            | (go_at_call 13; (with_reducible refine (few_calls _ _ _ HBR.out).mono ?_); rintro e w1 ⟨v1, rfl, ho1, hb1⟩; rw [← HG.out] at ho1; obtain ⟨Av, cv, rfl⟩ := bys_len ho1.bys)
            | (at_builtin; refine wpList_app43 rfl (.tmp 26) (.tmp 29) rfl w.heap.size u6 k vs (.slice Av r.length cv) w1.heap.size rfl ?hown rfl ?hc ?hu hk1.out ?hb ?_; rotate_left 4; intro v6 w3 h3 g3 e3)
            | (go_at_call 13; (with_reducible refine (few_calls _ _ _ (HBY.out.below ?hfew)).mono ?_); rotate_right; rintro e w4 ⟨v4, rfl, ho4, hb4⟩; rw [← HG.out] at ho4)
            | (at_builtin; refine wpList_app8 rfl (.tmp 31) (.tmp 33) rfl w.heap.size u5 v4 ((rows.map (·.take 400)).take k).flatten r rfl ?hown8 rfl ho4.bys HFR.out ?hb8 ?_; rotate_left 2; intro v5 w5 h5 g5 e5))
          case hown => exact (owns_below HV.out hb1).alloc _
          case hc => exact cell_of_heap (new_here w1 _)
          case hu => rfl
          case hb =>
            have q1 := HS.out.below.size
            have q2 := hb1.size
            simp
            omega
          case hfew => exact (below_al (below_tr HS.out.below hb1) _).grown g3 (by have := (below_al (below_tr HS.out.below hb1) (.cells #[.slice Av r.length cv] 29)).size; exact this) (fun b e => (World.ownsRow.lt HV.out b e).1)
          case hown8 => exact (((HS.out.all.below hb1).alloc _).kept g3 (fun b hb => HS.out.ne b hb)).below hb4
          case hb8 =>
            have q1 := HS.out.below.size
            have q2 := hb1.size
            have q3 := g3.size
            have q4 := hb4.size
            simp at q3
            omega
          have hS2 := SumR.step' HRR.out HS.out (by rw [List.length_map]; exact hlt) HV.out HO.out hb1 ho1 h3 g3 (by simpa using e3) hb4 h5 g5 e5
          have HS2 := Lib.hid hS2
          clear hS2
          go_roundw
          case rel => exact ⟨k + 1, by omega, by omega, by go_num, HS2.out⟩
          case measure => simp [intOf]; omega
      · have hd : decide (k < rows.length) = false := by simpa using hlt
        go_wp2
        go_meet
        exact ⟨k, hk, hk6, hS⟩
  case rest =>
    obtain ⟨k, hk, hk6, hS⟩ := hcut
    generalize wc = wa at *
    have hrw := hS.rws (by rw [List.length_map]; exact hk) hk6
    have hall := hS.all.bys
    have hbw := hS.below
    have hget : ∀ j, j < k → ((rows.map (·.take 400)).take k).getD j [] = (rows.getD j []).take 400 := fun j hj => by
      rw [← cut_get rows j (by omega), List.getD_eq_getElem?_getD, List.getD_eq_getElem?_getD, List.getElem?_take, if_pos hj]
    have hlen : ((rows.map (·.take 400)).take k).length = k := by rw [List.length_take, List.length_map]; omega
    have hfl := flat_len rows k hk6
    generalize hrt : (rows.map (·.take 400)).take k = rt at *
    generalize hf : rt.flatten = f at *
    obtain ⟨A6, c6, rfl, hr1, hr2⟩ := hrw
    obtain ⟨A5, c5, rfl⟩ := bys_len hall
    have hRW : Rws wa (.slice A6 rt.length c6) rt := ⟨A6, c6, rfl, hr1, hr2⟩
    rw [hlen] at hRW
    rw [hlen] at hr2
    have HRW := Lib.hid hRW
    have HR2 := Lib.hid hr2
    have HALL := Lib.hid hall
    have HBW := Lib.hid hbw
    have HGET := Lib.hid hget
    have hfl' : f.length ≤ 1099511627776 := by omega
    have HFL := Lib.hid hfl'
    have hp1 : nb (moreW 0 rt.flatten) = nb (moreW 0#32 f) := by rw [hf]; rfl
    have hp2 : nb (moreR 0#32 f) = nb (moreW 0#32 f) := by rw [moreR_eq]
    generalize nb (moreW 0#32 f) = p at hp1 hp2
    have HP1 := Lib.hid hp1
    have HP2 := Lib.hid hp2
    have HLEN := Lib.hid hlen
    clear hS hRW hr1 hr2 hall hbw hget hfl hfl' hp1 hp2 hrt hf
    simp only [hlen] at *
    go_wp2_with (first
      | (go_at_call 20; (with_reducible refine (sum_calls A6 k c6 rt _ HRW.out).mono ?_); rintro e w2 ⟨rfl, hb2⟩; rw [HP1.out])
      | (go_at_call 21; (with_reducible refine (rsum_calls _ f _ (HALL.out.below hb2) HFL.out).mono ?_); rintro e w3 ⟨rfl, rfl⟩; rw [HP2.out])
      | fail)
    have HB2 := Lib.hid hb2
    clear hb2
    go_loopw [43, 9, 10] (fun i _ _ wr => ∃ j : Nat, j ≤ k ∧ i = .int .i64 j ∧ Below wa.heap.size wa wr) (fun i _ _ _ => k - (intOf i).toNat)
    case atStart => exact ⟨0, by omega, rfl, HB2.out⟩
    case round =>
      obtain ⟨j, hj, rfl, hbj⟩ := hrel
      by_cases hlt : j < k
      · have hd : decide (j < k) = true := by simpa using hlt
        obtain ⟨b6, o6, rfl, hc6⟩ := HR2.out (by omega)
        obtain ⟨uj, hu1, hu2⟩ := hc6 j hlt
        obtain ⟨b0, o0, rfl, hc0⟩ := HC0.out (by omega)
        obtain ⟨sv, hs1, hs2⟩ := hc0 j (by omega)
        rw [HGET.out j hlt] at hu2
        have hbw2 := below_tr HBW.out hbj
        have d6 := (hbj.cell (p := ⟨b6, o6 + j, none⟩) (World.block_lt_of_cell? wa _ hu1)).trans hu1
        have d0 := (hbw2.cell (p := ⟨b0, o0 + j, none⟩) (World.block_lt_of_cell? w _ hs1)).trans hs1
        have hy6 := hu2.below hbj
        have hy0 := hs2.below hbw2
        have HY6 := Lib.hid hy6
        have HY0 := Lib.hid hy0
        have HBJ := Lib.hid hbj
        have i0 : (0 : Int) ≤ (j : Int) := by omega
        have i1 : (j : Int) < (k : Int) := by omega
        have i2 : (j : Int) < (rows.length : Int) := by omega
        clear hc6 hc0 hu1 hu2 hs1 hs2 hbj hbw2 hy6 hy0
        go_wp2_with (first
          | (go_at_call 13; (with_reducible refine (few_calls _ _ _ HY0.out).mono ?_); rintro e w4 ⟨v4, rfl, ho4, hb4⟩)
          | (go_at_call 11; (with_reducible refine (equal_same _ _ _ _ (HY6.out.below hb4) ho4.bys).mono ?_); rintro e w5 ⟨rfl, n5, rfl⟩)
          | fail)
        go_roundw
        case rel => exact ⟨j + 1, by omega, by go_num, below_dn (below_tr HBJ.out hb4) _⟩
        case measure => simp [intOf]; omega
      · have hd : decide (j < k) = false := by simpa using hlt
        have HBJ := Lib.hid hbj
        clear hbj
        go_upto_block 4 with (fail)
        go_cut [] (fun W => Below wa.heap.size wa W)
        case first =>
          go_wp2_with fail
          go_loopw [59, 11, 12] (fun i _ _ wr => ∃ j : Nat, j ≤ ws.length ∧ j ≤ 6 ∧ i = .int .i64 j ∧ Below wa.heap.size wa wr) (fun i _ _ _ => 7 - (intOf i).toNat)
          case atStart => exact ⟨0, by omega, by omega, rfl, HBJ.out⟩
          case round =>
            obtain ⟨m, hm, hm6, rfl, hbm⟩ := hrel
            have HBM := Lib.hid hbm
            by_cases hlt3 : m < ws.length
            · have hd3 : decide (m < ws.length) = true := by simpa using hlt3
              obtain ⟨b1, o1, rfl, hc1⟩ := HC1.out (by omega)
              have hw1 := hc1 m hlt3
              have d1 := ((below_tr HBW.out hbm).cell (p := ⟨b1, o1 + m, none⟩) (World.block_lt_of_cell? w _ hw1)).trans hw1
              generalize ws.getD m 0#32 = x at *
              have hmm : nb (moreR x f) = nb (moreW x f) := by rw [moreR_eq]
              generalize hq : nb (moreW x f) = q at hmm
              have HMM := Lib.hid hmm
              have HQ := Lib.hid hq
              have i0 : (0 : Int) ≤ (m : Int) := by omega
              have i1 : (m : Int) < (ws.length : Int) := by omega
              have hay := HALL.out.below hbm
              have HAY := Lib.hid hay
              clear hc1 hw1 hmm hq hay hbm
              by_cases h6 : m = 6
              · subst h6
                go_wp2
                go_meet
                exact HBM.out
              · have h6' : ((m : Int) == 6) = false := by simp; omega
                go_wp2_with (first
                  | (go_at_call 22; (with_reducible refine (mor_calls x A5 c5 f _ HAY.out).mono ?_); rintro e w4 ⟨rfl, hb4⟩; rw [HQ.out])
                  | (go_at_call 23; (with_reducible refine (rmore_calls x _ f _ (HAY.out.below hb4) HFL.out).mono ?_); rintro e w5 ⟨rfl, rfl⟩; rw [HMM.out])
                  | fail)
                go_roundw
                case rel => exact ⟨m + 1, by omega, by omega, by go_num, below_tr HBM.out hb4⟩
                case measure => simp [intOf]; omega
            · have hd3 : decide (m < ws.length) = false := by simpa using hlt3
              clear hbm
              go_wp2
              go_meet
              exact HBM.out
        case rest =>
          have HBC := Lib.hid hcut
          clear hcut
          go_wp2_with (first
            | (go_at_call 24; refine (table_calls _).mono ?_; rintro e w6 ⟨rfl, hb6⟩)
            | (refine wpList_store_row rfl 48 (.tmp 13) (.tmp 74) rfl w6.heap.size (tabB 256) rfl rfl 48 Try.zeroCells48 (new_here w6 _) (by rw [tabB_size]; kernel_rfl) (by rw [tabB_zero, tabB_size, tabB_size]) (tabB_one 256) ?_))
          try simp only [Act.put]
          obtain ⟨W0, hW0⟩ : ∃ W0, (w6.alloc (Obj.cells Try.zeroCells48 48)).setRow w6.heap.size (tabB 256) = W0 := ⟨_, rfl⟩
          rw [hW0]
          have ht : W0.heap[w6.heap.size]? = some (.cells (tabB 256) 48 (0, 0)) := by rw [← hW0]; exact setRow_heap _ _ _ _ _ _ (new_here w6 _)
          have hbW : Below w6.heap.size w6 W0 := by rw [← hW0]; exact below_setRow (below_al (Below.refl _ _) _) (Nat.le_refl _) _
          have hbw0 := below_tr (below_tr (below_tr HBW.out HBC.out) hb6) hbW
          have HB0 := Lib.hid hbw0
          have HT := Lib.hid ht
          clear hW0 ht hbW hbw0 hb6
          go_loopw [75, 14] (fun i _ wr => ∃ n : Nat, n ≤ 256 ∧ i = .int .i64 n ∧ Below W0.heap.size W0 wr) (fun i _ _ => 256 - (intOf i).toNat)
          case atStart => exact ⟨0, by omega, rfl, Below.refl _ _⟩
          case round =>
            obtain ⟨n, hn, rfl, hbn⟩ := hrel
            have HBN := Lib.hid hbn
            by_cases hlt4 : n < 256
            · have hd4 : decide ((n : Int) < 256) = true := by simp; omega
              have hq : ∃ q, nb (tabByte n) = q := ⟨_, rfl⟩
              obtain ⟨q, hq⟩ := hq
              have HQ := Lib.hid hq
              have hcell : wr.cell? ⟨w6.heap.size, n, none⟩ = some (.int .u32 q) := by
                rw [cell_of_heap ((hbn.block _ (lt_of_heap HT.out)).trans HT.out), tabB_at 256 n hlt4, if_pos hlt4, hq]
              have hk : ∀ W, Below wr.heap.size wr W → W.cell? ⟨w6.heap.size, n, none⟩ = some (.int .u32 q) := fun W h => (h.cell (p := ⟨w6.heap.size, n, none⟩) (World.block_lt_of_cell? wr _ hcell)).trans hcell
              have HK := Lib.hid hk
              have i0 : (0 : Int) ≤ (n : Int) := by omega
              have i1 : (n : Int) < 256 := by omega
              have hw8 : IntKind.u8.wrap (n : Int) = (n : Int) := by
                simp [IntKind.wrap, IntKind.bits, IntKind.signed]
                omega
              clear hq hk hbn
              go_wp2
              go_region_held3 (fun W => W.cell? ⟨w6.heap.size, n, none⟩ = some (.int .u32 q)) ((refine HK.out _ ?_; (repeat (with_reducible first | exact Below.refl _ _ | apply below_dr | apply below_dn | apply below_al | assumption)))) (first
                | (go_at_call 25; (with_reducible refine (fed_one n hlt4 q HQ.out _ _ ?_).mono ?_); (exact new_here _ _); rintro e w7 ⟨rfl, rfl⟩))
              go_wp2
              go_roundw
              case rel => exact ⟨n + 1, by omega, by go_num, by repeat (with_reducible first | exact HBN.out | apply below_dr | apply below_dn | apply below_al)⟩
              case measure => simp [intOf]; omega
            · have hd4 : decide ((n : Int) < 256) = false := by simp; omega
              go_wp2
              go_ret
              exact ⟨rfl, below_tr HB0.out HBN.out⟩
end Go.Proofs.Ytekbjgnlaompbaa
