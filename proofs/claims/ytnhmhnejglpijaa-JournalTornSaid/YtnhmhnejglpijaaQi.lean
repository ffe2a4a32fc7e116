/- Rows of bytes: joined, few, the same: walks. -/
import Derived.Test.YtnhmhnejglpijaaQc
import Derived.Lib.Walk
import Derived.Lib.SliceRun
import Derived.Lib.AppendZerosOnto
namespace Go.Proofs.Ytnhmhnejglpijaa
open Go.RowKit
set_option maxRecDepth 100000
set_option linter.unusedSimpArgs false
set_option linter.unusedVariables false
set_option maxHeartbeats 4000000 in
theorem grow8_some (n : Nat) (w : World) (hn : 0 < n) (hbig : n ≤ 1000000000) :
    Calls Try.prog 94 #[.slice none 0 0, .int .i64 n] w fun e w' => ∃ v', e = .returned v' ∧ Own8 w' w.heap.size v' [] ∧ Below w.heap.size w w' := by
  obtain ⟨i0, hi0, hz0, hz1, hz2⟩ := info_parts Try.info5
  have h1 : ¬ ((n : Int) < 0) := by omega
  have h4 : (n : Int) > 0 := by omega
  have hold : (Builtin.firstCells i0.size 0 (.slice none 0 0)).run Try.prog w.drew = .ok #[] w.drew := run_firstCells_none w.drew i0.size 0 0 0
  have hrz : ∀ ty, (Builtin.append_ #[34, 3] ty #[.slice none 0 0, .int .i64 (n : Int)]).run Try.prog w =
      .ok (.slice (some ⟨w.heap.size, 0, none⟩) n (grownCap w n 0 5)) (w.drew.alloc (.cells (#[] ++ Builtin.zeroCells (Value.int .u8 0).cells n ++ Builtin.zeroCells (Value.int .u8 0).cells (grownCap w n 0 5 - n)) 5)) := fun ty => by
    have h := Lib.run_append_grow_zeros w 34 3 ty 5 i0 _ .i64 .i64 Try.underlying34 Try.underlying3 hi0 hz0 none 0 0 [] hold n (by omega) (by omega) (by omega) (by omega) (by rw [hz2]; omega) (by rw [Nat.zero_add]; exact growslice_fits (by omega) (by rw [hz2]; omega))
    rw [Nat.zero_add] at h
    exact h
  have hGn : n ≤ grownCap w n 0 5 := grownCap_ge w _ _ _
  obtain ⟨G, hG⟩ : ∃ G, G = grownCap w n 0 5 := ⟨_, rfl⟩
  rw [← hG] at hrz hGn
  have hGm : G ≤ maxLen := by rw [hG]; exact grownCap_le_maxLen w n 0 5 (by unfold maxLen; omega)
  have hG63 : G ≤ 9223372036854775807 := by unfold maxLen at hGm; omega
  obtain ⟨cs, hcs⟩ : ∃ cs, cs = (#[] ++ Builtin.zeroCells (Value.int .u8 0).cells n ++ Builtin.zeroCells (Value.int .u8 0).cells (G - n)) := ⟨_, rfl⟩
  have hcl : cs.size = G * 1 := by
    rw [hcs, Array.size_append, Array.size_append, size_zeroCells, size_zeroCells]
    show 0 + n * 1 + (G - n) * 1 = G * 1
    omega
  rw [← hcs] at hrz
  have HCL := Lib.hid hcl
  have HGM := Lib.hid hGm
  clear hold hG hcs hcl hGm hi0 hz0 hz1 hz2
  go_enter Try.func94, Try.ntmps94
  go_wp2_with (at_builtin; refine Lib.wpList_append_run _ rfl _ _ _ _ rfl _ _ rfl rfl _ _ (hrz _) ?_)
  all_goals
    go_ret
    exact ⟨_, rfl, World.ownsRow_made w.drew cs G (Nat.le_refl _) HGM.out HCL.out, below_al (below_dr (Below.refl _ w)) _⟩
theorem grow8_none (w : World) :
    Calls Try.prog 94 #[.slice none 0 0, .int .i64 0] w fun e w' => ∃ v', e = .returned v' ∧ Own8 w' w.heap.size v' [] ∧ Below w.heap.size w w' := by
  go_enter Try.func94, Try.ntmps94
  go_wp2
  go_ret
  exact ⟨_, rfl, Own8.nil _ _, Below.refl _ _⟩
theorem grow8_calls (n : Nat) (w : World) (hbig : n ≤ 1000000000) :
    Calls Try.prog 94 #[.slice none 0 0, .int .i64 n] w fun e w' => ∃ v', e = .returned v' ∧ Own8 w' w.heap.size v' [] ∧ Below w.heap.size w w' := by
  cases n with
  | zero => exact grow8_none w
  | succ n => exact grow8_some (n + 1) w (by omega) hbig
theorem flat_snoc (rows : List (List B8)) (k : Nat) (hk : k < rows.length) : (rows.take (k + 1)).flatten = (rows.take k).flatten ++ rowAt rows k := by
  rw [← rowAt_snoc rows k hk]
  simp
theorem flat_le (rows : List (List B8)) (k : Nat) : (rows.take k).flatten.length ≤ rows.flatten.length := by
  have h : rows.flatten = (rows.take k).flatten ++ (rows.drop k).flatten := by rw [← List.flatten_append, List.take_append_drop]
  rw [h, List.length_append]
  omega
/-- how many bytes the first rows have -/
def fl (rows : List (List B8)) (k : Nat) : Nat := (rows.take k).flatten.length
set_option maxHeartbeats 4000000 in
theorem concat8_calls (v : Value) (rows : List (List B8)) (w : World) (hv : RwsA w v rows) (ht : rows.flatten.length ≤ 1000000000) :
    Calls Try.prog 54 #[v] w fun e w' => ∃ v', e = .returned v' ∧ Own8 w' w.heap.size v' rows.flatten ∧ Below w.heap.size w w' := by
  obtain ⟨A, cap, rfl, h1, h2, h3⟩ := hv
  unfold maxLen at h2
  have HC := Lib.hid h3
  have HT := Lib.hid ht
  clear h3 ht
  go_enter Try.func54, Try.ntmps54
  go_wp2_with fail
  go_loopw [11, 3, 5] (fun i s _ wr => wr = w ∧ ∃ k : Nat, k ≤ rows.length ∧ i = .int .i64 k ∧ s = .int .i64 (fl rows k : Int)) (fun i _ _ _ => rows.length - (intOf i).toNat)
  case atStart => exact ⟨rfl, 0, Nat.zero_le _, rfl, rfl⟩
  case round =>
    obtain ⟨hw, k, hk, rfl, rfl⟩ := hrel
    obtain rfl : w = wr := hw.symm
    by_cases hlt : k < rows.length
    · have hd : decide (k < rows.length) = true := by simpa using hlt
      obtain ⟨b, off, rfl, hcell⟩ := HC.out (by omega)
      obtain ⟨sv, k1, k4⟩ := hcell k hlt
      obtain ⟨A', c', rfl, _⟩ := k4
      have i0 : (0 : Int) ≤ (k : Int) := by omega
      have i1 : (k : Int) < (rows.length : Int) := by omega
      have hs : fl rows (k + 1) = fl rows k + (rowAt rows k).length := by unfold fl; rw [flat_snoc rows k hlt, List.length_append]
      have hle : fl rows (k + 1) ≤ rows.flatten.length := flat_le rows (k + 1)
      have htt := HT.out
      have HS : Hid ((fl rows (k + 1) : Int) = (fl rows k : Int) + ((rowAt rows k).length : Int)) := Lib.hid (by omega)
      have hnn : ¬ ((fl rows k : Int) + ((rowAt rows k).length : Int) < 0) := by omega
      have hbd : (fl rows k : Int) + ((rowAt rows k).length : Int) ≤ 1000000000 := by omega
      clear hcell hs hle htt
      generalize fl rows k = L at *
      go_wp2
      go_roundw
      case rel => exact ⟨trivial, k + 1, by omega, by go_num, by rw [HS.out]⟩
      case measure => simp [intOf]; omega
    · have hd : decide (k < rows.length) = false := by simpa using hlt
      have hnn : Hid (fl rows k ≤ 1000000000) := Lib.hid (Nat.le_trans (flat_le rows k) HT.out)
      go_wp2_with (go_at_call 94; (with_reducible refine (grow8_calls (fl rows k) _ hnn.out).mono ?_); rintro e w3 ⟨v3, rfl, hr3, hb3⟩)
      have HR0 : Hid (Own8 w3 w.heap.size v3 (rows.take 0).flatten ∧ Below w.heap.size w w3) := Lib.hid ⟨by simpa using hr3, hb3⟩
      clear hr3 hb3 hlt hd
      go_loopw [27, 6, 8] (fun i s _ wq => ∃ k : Nat, k ≤ rows.length ∧ i = .int .i64 k ∧ Hid (Own8 wq w.heap.size s (rows.take k).flatten ∧ Below w.heap.size w wq)) (fun i _ _ _ => rows.length - (intOf i).toNat)
      case atStart => exact ⟨0, Nat.zero_le _, rfl, HR0⟩
      case round =>
        obtain ⟨j, hj, rfl, HR⟩ := hrel
        by_cases hlt : j < rows.length
        · have hd : decide (j < rows.length) = true := by simpa using hlt
          obtain ⟨b, off, rfl, hcell⟩ := HC.out (by omega)
          obtain ⟨sv, k1, k4⟩ := hcell j hlt
          have hbw := HR.out.2
          have d1 := (hbw.cell (p := ⟨b, off + j, none⟩) (World.block_lt_of_cell? _ _ k1)).trans k1
          have HY := Lib.hid (k4.below hbw)
          obtain ⟨A', c', rfl, _⟩ := k4
          have i0 : (0 : Int) ≤ (j : Int) := by omega
          have i1 : (j : Int) < (rows.length : Int) := by omega
          have HLEN : Hid ((rows.take j).flatten.length + (rowAt rows j).length ≤ 140737488355328) := Lib.hid (by
            have := flat_le rows (j + 1)
            rw [flat_snoc rows j hlt, List.length_append] at this
            have := HT.out
            omega)
          have HFS := Lib.hid (flat_snoc rows j hlt)
          clear hcell k1 hbw
          go_wp2_with (at_builtin; refine wpList_app8 rfl (.tmp 31) (.tmp 32) rfl w.heap.size _ _ (rows.take j).flatten (rowAt rows j) rfl HR.out.1 rfl HY.out HLEN.out HR.out.2.size ?_; intro v4 w4 h4 g4 _)
          have HQ : Hid (Own8 w4 w.heap.size v4 (rows.take (j + 1)).flatten ∧ Below w.heap.size w w4) := Lib.hid ⟨by rw [HFS.out]; exact h4, HR.out.2.grown g4 HR.out.2.size (fun k e => (HR.out.1.lt k e).1)⟩
          clear h4 g4
          go_wp2
          go_roundw
          case rel => exact ⟨j + 1, by omega, by go_num, HQ⟩
          case measure => simp [intOf]; omega
        · have hd : decide (j < rows.length) = false := by simpa using hlt
          have HE : Hid (rows.take j = rows) := Lib.hid (by rw [show j = rows.length by omega, List.take_length])
          go_wp2
          go_ret
          exact ⟨_, rfl, by have := HR.out.1; rwa [HE.out] at this, HR.out.2⟩
/-! ### few, same -/
def fewR (rows : List (List B8)) : List (List B8) := (rows.take 6).map (·.take 65537)
theorem fewR_len (rows : List (List B8)) : (fewR rows).length ≤ 6 := by simp [fewR]; omega
theorem fewR_bound {rows : List (List B8)} {r : List B8} (h : r ∈ fewR rows) : r.length ≤ 65537 := by
  simp only [fewR, List.mem_map] at h
  obtain ⟨x, _, rfl⟩ := h
  rw [List.length_take]
  omega
def cutR (rows : List (List B8)) (k : Nat) : List (List B8) := (rows.take k).map (·.take 65537)
theorem cutR_succ (rows : List (List B8)) (k : Nat) (hk : k < rows.length) : cutR rows (k + 1) = cutR rows k ++ [(rowAt rows k).take 65537] := by
  rw [cutR, ← rowAt_snoc rows k hk, List.map_append]
  rfl
theorem cutR_length (rows : List (List B8)) (k : Nat) (hk : k ≤ rows.length) : (cutR rows k).length = k := by simp [cutR]; omega
theorem cutR_few (rows : List (List B8)) : cutR rows (min rows.length 6) = fewR rows := by
  unfold cutR fewR
  by_cases h : rows.length ≤ 6
  · rw [Nat.min_eq_left h, List.take_length, List.take_of_length_le h]
  · rw [Nat.min_eq_right (by omega)]
set_option maxHeartbeats 2000000 in
theorem fewR_calls (v : Value) (rows : List (List B8)) (w : World) (hv : RwsA w v rows) :
    Calls Try.prog 36 #[v] w fun e w' => ∃ v', e = .returned v' ∧ OwnRs (fun w' v bs => Own8 w' w.heap.size v bs) w' w.heap.size v' (fewR rows) ∧ Below w.heap.size w w' := by
  obtain ⟨A, cap, rfl, h1, h2, h3⟩ := hv
  unfold maxLen at h2
  have HC := Lib.hid h3
  clear h3
  obtain ⟨m, hm⟩ : ∃ m, min rows.length 6 = m := ⟨_, rfl⟩
  have hm1 : min (rows.length : Int) 6 = (m : Int) := by omega
  have hm2 : (m : Int) ≤ (cap : Int) := by omega
  have hm3 : (0 : Int) ≤ (m : Int) := by omega
  have hm4 : m ≤ rows.length ∧ m ≤ 6 := by omega
  have HF : Hid (cutR rows m = fewR rows) := Lib.hid (by rw [← hm]; exact cutR_few rows)
  clear hm
  go_enter Try.func36, Try.ntmps36
  go_wp2
  go_loopw [3, 12] (fun s3 i wr => ∃ k : Nat, k ≤ m ∧ i = .int .i64 k ∧ Hid (OwnRs (fun w' v bs => Own8 w' w.heap.size v bs) wr w.heap.size s3 (cutR rows k) ∧ Below w.heap.size w wr)) (fun _ i _ => m - (intOf i).toNat)
  case atStart => exact ⟨0, Nat.zero_le _, rfl, Lib.hid ⟨OwnRs.nil _ _ _, Below.refl _ _⟩⟩
  case round =>
    obtain ⟨k, hk, rfl, HR⟩ := hrel
    by_cases hlt : k < m
    · have hd : decide (k < m) = true := by simpa using hlt
      obtain ⟨b, off, rfl, hcell⟩ := HC.out (by omega)
      obtain ⟨sv, k1, k4⟩ := hcell k (by omega)
      have hbw := HR.out.2
      have d1 := (hbw.cell (p := ⟨b, off + k, none⟩) (World.block_lt_of_cell? w _ k1)).trans k1
      have hy := k4.below hbw
      obtain ⟨A', c', rfl, hcl, hcm, _⟩ := id k4
      unfold maxLen at hcm
      have i0 : (0 : Int) ≤ (k : Int) := by omega
      have i1 : (k : Int) < (m : Int) := by omega
      obtain ⟨q, hq⟩ : ∃ q, min (rowAt rows k).length 65537 = q := ⟨_, rfl⟩
      have hq1 : min ((rowAt rows k).length : Int) 65537 = (q : Int) := by omega
      have hq2 : (q : Int) ≤ (c' : Int) := by omega
      have hq3 : (0 : Int) ≤ (q : Int) := by omega
      have HX := Lib.hid (hy.take q (by omega))
      have HXL : Hid (((rowAt rows k).take q).length ≤ 140737488355328) := Lib.hid (by rw [List.length_take]; omega)
      have HCU : Hid (cutR rows (k + 1) = cutR rows k ++ [(rowAt rows k).take q]) := Lib.hid (by
        rw [cutR_succ rows k (by omega)]
        congr 2
        by_cases h : (rowAt rows k).length ≤ 65537
        · rw [show q = (rowAt rows k).length by omega, List.take_length, List.take_of_length_le h]
        · rw [show q = 65537 by omega])
      have HCL : Hid ((cutR rows k).length ≤ 1000000) := Lib.hid (by rw [cutR_length rows k (by omega)]; omega)
      clear hcell k1 hbw hy k4 hq
      go_wp2_with (first
        | (go_at_call 37; (with_reducible refine (clone_calls _ ((rowAt rows k).take q) _ HX.out HXL.out).mono ?_); rintro e w1 ⟨v1, rfl, ho1, hb1⟩; (obtain ⟨A1, n1, c1, rfl⟩ : ∃ A n c, v1 = .slice A n c := by obtain ⟨A, c, e⟩ := own8_shape ho1; exact ⟨A, _, c, e⟩))
        | (at_builtin; refine wpList_appR (el_own w.heap.size) rfl (.tmp 16) (.tmp 23) rfl w.heap.size _ (cutR rows k) rfl ((HR.out.1.below (el_own _) hb1).below (el_own _) (below_al (Below.refl _ _) _)) w1.heap.size ((rowAt rows k).take q) (.slice A1 n1 c1) 34 (0, 0) rfl (new_here w1 _) ((ho1.base HR.out.2.size).alloc _) HCL.out (by have := HR.out.2.size; have := hb1.size; simp; omega) ?_; intro g cap' w2 h2 hg2 hlt2))
      have HN : Hid (OwnRs (fun w' v bs => Own8 w' w.heap.size v bs) w2 w.heap.size (.slice (some ⟨g, 0, none⟩) ((cutR rows k).length + 1) cap') (cutR rows (k + 1)) ∧ Below w.heap.size w w2) := Lib.hid ⟨by rw [HCU.out]; exact h2, (below_al (below_tr HR.out.2 hb1) _).grown hg2 (by have := HR.out.2.size; have := hb1.size; simp; omega) (fun k e => (HR.out.1.lt k e).1)⟩
      clear h2 hg2 ho1 hb1
      go_wp2
      go_roundw
      case rel => exact ⟨k + 1, by omega, by go_num, HN⟩
      case measure => simp [intOf]; omega
    · have hd : decide (k < m) = false := by simpa using hlt
      have HE : Hid (cutR rows k = fewR rows) := Lib.hid (by rw [show k = m by omega]; exact HF.out)
      go_wp2
      go_ret
      exact ⟨_, rfl, by have := HR.out.1; rwa [HE.out] at this, HR.out.2⟩
theorem e86 (args : Array Value) (w : World) : (callFunc 86 args).run Try.prog w = .ok (.enter 86 args) w := enters_of Try.func86 (by kernel_rfl) rfl args w
theorem same1_calls (v1 v2 : Value) (x y : List B8) (w : World) (h1 : Bys w v1 x) (h2 : Bys w v2 y) :
    Calls Try.prog 86 #[v1, v2] w fun e w' => e = .returned (.bool (decide (x = y))) ∧ Below w.heap.size w w' := by
  obtain ⟨A, c, rfl, _⟩ := id h1
  obtain ⟨A2, c2, rfl, _⟩ := id h2
  have HX := Lib.hid h1
  have HY := Lib.hid h2
  clear h1 h2
  go_enter Try.func86, Try.ntmps86
  go_wp2_with (go_at_call 16; (with_reducible refine (equal_calls _ _ x y _ HX.out HY.out).mono ?_); rintro e w1 ⟨rfl, n, rfl⟩)
  go_ret
  exact ⟨rfl, (Below.refl _ _).drewN _⟩
theorem rows_ext {a b : List (List B8)} (hl : a.length = b.length) (h : ∀ j, j < a.length → rowAt a j = rowAt b j) : a = b := by
  apply List.ext_getElem hl
  intro j h1 h2
  have := h j h1
  simpa [rowAt, List.getD_eq_getElem?_getD, h1, h2] using this
set_option maxHeartbeats 2000000 in
theorem eqf_calls (v1 v2 : Value) (a b : List (List B8)) (w : World) (h1 : RwsA w v1 a) (h2 : RwsA w v2 b) :
    Calls Try.prog 85 #[v1, v2, .func (.func 86) #[] #[]] w fun e w' => e = .returned (.bool (decide (a = b))) ∧ Below w.heap.size w w' := by
  obtain ⟨A, cap, rfl, ha1, ha2, ha3⟩ := h1
  obtain ⟨A2, cap2, rfl, hb1, hb2, hb3⟩ := h2
  unfold maxLen at ha2 hb2
  have HA := Lib.hid ha3
  have HB := Lib.hid hb3
  clear ha3 hb3
  by_cases hl : a.length = b.length
  · have hn : ((a.length : Int) != (b.length : Int)) = false := by rw [bne_eq_false_iff_eq]; omega
    have hn2 : (a.length != b.length) = false := by rw [bne_eq_false_iff_eq]; omega
    have HL := Lib.hid hl
    clear hl
    go_enter Try.func85, Try.ntmps85
    go_wp2
    go_loopw [7, 8, 17] (fun _ _ i wr => ∃ k : Nat, k ≤ a.length ∧ i = .int .i64 k ∧ Hid (Below w.heap.size w wr ∧ ∀ j, j < k → rowAt a j = rowAt b j)) (fun _ _ i _ => a.length - (intOf i).toNat)
    case atStart => exact ⟨0, Nat.zero_le _, rfl, Lib.hid ⟨Below.refl _ _, fun j hj => absurd hj (Nat.not_lt_zero _)⟩⟩
    case round =>
      obtain ⟨k, hk, rfl, HR⟩ := hrel
      by_cases hlt : k < a.length
      · have hd : decide (k < a.length) = true := by simpa using hlt
        obtain ⟨ab, aoff, rfl, hac⟩ := HA.out (by omega)
        obtain ⟨bb, boff, rfl, hbc⟩ := HB.out (by have := HL.out; omega)
        obtain ⟨av, a1, a2⟩ := hac k hlt
        obtain ⟨bv, b1, b2⟩ := hbc k (by have := HL.out; omega)
        have hbw := HR.out.1
        have d1 := (hbw.cell (p := ⟨ab, aoff + k, none⟩) (World.block_lt_of_cell? w _ a1)).trans a1
        have d2 := (hbw.cell (p := ⟨bb, boff + k, none⟩) (World.block_lt_of_cell? w _ b1)).trans b1
        have hcall := same1_calls av bv (rowAt a k) (rowAt b k) wr (a2.below hbw) (b2.below hbw)
        obtain ⟨A', c', rfl, _⟩ := a2
        obtain ⟨B', e', rfl, _⟩ := b2
        have i0 : (0 : Int) ≤ (k : Int) := by omega
        have i1 : (k : Int) < (a.length : Int) := by omega
        have i2 : (k : Int) < (b.length : Int) := by have := HL.out; omega
        clear hac hbc a1 b1 hbw
        by_cases hq : rowAt a k = rowAt b k
        · rw [decide_eq_true hq] at hcall
          have HQ := Lib.hid hq
          clear hq
          go_wp2_with (go_at_call 86; refine hcall.mono ?_; rintro e w' ⟨rfl, hb'⟩)
          have HN : Hid (Below w.heap.size w w' ∧ ∀ j, j < k + 1 → rowAt a j = rowAt b j) := Lib.hid ⟨below_tr HR.out.1 hb', fun j hj => by
            by_cases e : j = k
            · subst e; exact HQ.out
            · exact HR.out.2 j (by omega)⟩
          clear hb'
          go_roundw
          case rel => exact ⟨k + 1, by omega, by go_num, HN⟩
          case measure => simp [intOf]; omega
        · rw [decide_eq_false hq] at hcall
          have HQ := Lib.hid hq
          clear hq
          go_wp2_with (go_at_call 86; refine hcall.mono ?_; rintro e w' ⟨rfl, hb'⟩)
          go_ret
          exact ⟨ret_bool (decide_eq_false (fun e => HQ.out (by rw [e]))).symm, below_tr HR.out.1 hb'⟩
      · have hd : decide (k < a.length) = false := by simpa using hlt
        have hk : k = a.length := by omega
        have HE : Hid (a = b) := Lib.hid (rows_ext HL.out fun j hj => HR.out.2 j (by omega))
        clear hk
        go_wp2
        go_ret
        exact ⟨ret_bool (decide_eq_true HE.out).symm, HR.out.1⟩
  · have hn : ((a.length : Int) != (b.length : Int)) = true := by rw [bne_iff_ne]; omega
    have hn2 : (a.length != b.length) = true := by rw [bne_iff_ne]; omega
    have HL := Lib.hid hl
    clear hl
    go_enter Try.func85, Try.ntmps85
    go_wp2
    go_ret
    exact ⟨ret_bool (decide_eq_false (fun e => HL.out (by rw [e]))).symm, Below.refl _ _⟩
theorem rsame_calls (v1 v2 : Value) (a b : List (List B8)) (w : World) (h1 : RwsA w v1 a) (h2 : RwsA w v2 b) :
    Calls Try.prog 45 #[v1, v2] w fun e w' => e = .returned (.bool (decide (a = b))) ∧ Below w.heap.size w w' := by
  obtain ⟨A, c, rfl, _⟩ := id h1
  obtain ⟨A2, c2, rfl, _⟩ := id h2
  have HX := Lib.hid h1
  have HY := Lib.hid h2
  clear h1 h2
  go_enter Try.func45, Try.ntmps45
  go_wp2_with (go_at_call 85; (with_reducible refine (eqf_calls _ _ a b _ HX.out HY.out).mono ?_); rintro e w1 ⟨rfl, hb1⟩)
  go_ret
  exact ⟨rfl, hb1⟩
end Go.Proofs.Ytnhmhnejglpijaa
