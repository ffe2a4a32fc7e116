/- net: which parcels may be, parcels copied: walks. -/
import Derived.Test.YtnhmhnejglpijaaNb
import Derived.Deep.DeepCutAuto
import Derived.Deep.CutBlock
namespace Go.Proofs.Ytnhmhnejglpijaa
open Go.RowKit
set_option maxRecDepth 100000
set_option linter.unusedSimpArgs false
set_option linter.unusedVariables false
theorem new_three (w : World) (o0 o1 o2 : Obj) : (((w.alloc o0).alloc o1).alloc o2).heap[w.heap.size]? = some o0 ∧ (((w.alloc o0).alloc o1).alloc o2).heap[w.heap.size + 1]? = some o1 ∧ (((w.alloc o0).alloc o1).alloc o2).heap[w.heap.size + 2]? = some o2 := by
  have h0 := new_here w o0
  have h1 : ((w.alloc o0).alloc o1).heap[w.heap.size + 1]? = some o1 := by have := new_here (w.alloc o0) o1; rwa [World.size_alloc] at this
  have h2 : (((w.alloc o0).alloc o1).alloc o2).heap[w.heap.size + 2]? = some o2 := by have := new_here ((w.alloc o0).alloc o1) o2; rwa [World.size_alloc, World.size_alloc] at this
  exact ⟨new_next _ _ (new_next _ _ h0), new_next _ _ h1, h2⟩
/-- the three cells of a block -/
theorem three_cells {w : World} {b T : Nat} {x y z : Value} (h : w.heap[b]? = some (.cells #[x, y, z] T (0, 0))) :
    (w.cell? ⟨b, 0, none⟩ = some x ∧ w.cell? ⟨b, 1, none⟩ = some y ∧ w.cell? ⟨b, 2, none⟩ = some z) ∧ w.frozen? ⟨b, 0, none⟩ = false ∧ w.frozen? ⟨b, 1, none⟩ = false ∧ w.frozen? ⟨b, 2, none⟩ = false :=
  ⟨⟨cell_of_heap h, cell_of_heap h, cell_of_heap h⟩, free_of_heap h, free_of_heap h, free_of_heap h⟩
theorem own8_other {w : World} {B g j : Nat} {v y : Value} {bs : List B8} (h : Own8 w B v bs) (hne : ∀ k, v.ownBlock = some k → k ≠ g) : Own8 (w.setCell ⟨g, j, none⟩ y) B v bs :=
  h.mod (L := [g]) ((Mod.refl [g] w).setCell (by simp) y) (fun k hk hm => hne k hk (by simpa using hm))
/-- May a parcel be? -/
def mayV (t : Int) (n : Nat) : Bool := decide (0 ≤ t ∧ t ≤ 8 ∧ n ≤ 8192)
theorem mayV_eq {t : Int} {n : Nat} {b : Bool} (h : (0 ≤ t ∧ t ≤ 8 ∧ n ≤ 8192) ↔ b = true) : mayV t n = b := by
  unfold mayV
  rw [Bool.eq_iff_iff, decide_eq_true_eq]
  exact h
theorem may_calls (t : Int) (A : Option Addr) (n c : Nat) (s : Bool) (w : World) :
    Calls Try.prog 65 #[.agg #[.int .i64 t, .slice A n c, .bool s]] w fun e w' => e = .returned (.bool (mayV t n)) ∧ Below w.heap.size w w' := by
  have HB : Hid (Below w.heap.size w (w.alloc (.cells #[.int .i64 t, .slice A n c, .bool s] 36))) := Lib.hid (below_al (Below.refl _ w) _)
  by_cases h1 : 0 ≤ t
  · have d1 : decide (t ≥ 0) = true := decide_eq_true h1
    by_cases h2 : t ≤ 8
    · have d2 : decide (t ≤ 8) = true := decide_eq_true h2
      by_cases h3 : n ≤ 8192
      · have d3 : decide ((n : Int) ≤ 8192) = true := decide_eq_true (by omega)
        go_enter Try.func65, Try.ntmps65
        go_wp2
        go_ret
        exact ⟨ret_bool (mayV_eq (by simp; omega)).symm, HB.out⟩
      · have d3 : decide ((n : Int) ≤ 8192) = false := decide_eq_false (by omega)
        go_enter Try.func65, Try.ntmps65
        go_wp2
        go_ret
        exact ⟨ret_bool (mayV_eq (by simp; omega)).symm, HB.out⟩
    · have d2 : decide (t ≤ 8) = false := decide_eq_false h2
      go_enter Try.func65, Try.ntmps65
      go_wp2
      go_ret
      exact ⟨ret_bool (mayV_eq (by simp; omega)).symm, HB.out⟩
  · have d1 : decide (t ≥ 0) = false := decide_eq_false h1
    go_enter Try.func65, Try.ntmps65
    go_wp2
    go_ret
    exact ⟨ret_bool (mayV_eq (by simp; omega)).symm, HB.out⟩
/-- what may be sent -/
theorem sendable_calls (t : Int) (A : Option Addr) (n c : Nat) (s : Bool) (w : World) :
    Calls Try.prog 64 #[.agg #[.int .i64 t, .slice A n c, .bool s]] w fun e w' => e = .returned (.bool (mayV t n && !s)) ∧ Below w.heap.size w w' := by
  have HB : Hid (Below w.heap.size w (w.alloc (.cells #[.int .i64 t, .slice A n c, .bool s] 36))) := Lib.hid (below_al (Below.refl _ w) _)
  have hn : Hid ((w.alloc (.cells #[.int .i64 t, .slice A n c, .bool s] 36)).heap[w.heap.size]? = some (.cells #[.int .i64 t, .slice A n c, .bool s] 36 (0, 0))) := Lib.hid (new_here w _)
  cases hm : mayV t n
  all_goals
    have HM := Lib.hid hm
    clear hm
    go_enter Try.func64, Try.ntmps64
    go_wp2_with (go_at_call 65; (with_reducible refine (may_calls t A n c s _).mono ?_); rintro e w1 ⟨rfl, hb⟩; rw [HM.out]; (have hc : w1.cell? ⟨w.heap.size, 2, none⟩ = some (.bool s) := cell_of_heap ((hb.block _ (by simp)).trans hn.out)))
    go_ret
    exact ⟨ret_bool (by simp), below_tr HB.out hb⟩
theorem own_calls (t : Int) (v : Value) (bs : List B8) (s : Bool) (w : World) (hb : Bys w v bs) (hl : bs.length ≤ 1099511627776) :
    Calls Try.prog 99 #[.agg #[.int .i64 t, v, .bool s]] w fun e w' => ∃ v', e = .returned (.agg #[.int .i64 t, v', .bool s]) ∧ Own8 w' w.heap.size v' bs ∧ Below w.heap.size w w' := by
  have hb' := hb
  obtain ⟨A, cap, rfl, hc1, hc2, hc3, hc4⟩ := hb'
  have HB := Lib.hid hb
  clear hb hc3 hc4
  unfold maxLen at hc2
  have hmk : ∀ w, (Instr.makeSlice 34 (.int .i64 bs.length) (.int .i64 bs.length)).run Try.prog w = .ok (.slice (some ⟨w.heap.size, 0, none⟩) bs.length bs.length) (w.alloc (.cells (zb bs.length) 5)) := fun w => run_make8 w bs.length bs.length (Nat.le_refl _) (by omega)
  go_enter Try.func99, Try.ntmps99
  go_wp2_with (refine wpList_copy_splice rfl (.tmp 8) (.tmp 10) 34 34 rfl 5 Try.underlying34 (by kernel_rfl) _ _ _ _ _ _ rfl rfl (w.heap.size + 2) 0 (bvals (List.replicate bs.length 0#8)) 5 ?hg (bvals bs) ?hn ?hpos ?hfit (bvals_one bs) (w.heap.size + 2) _ (Below.refl _ _) (Nat.le_refl _) ?_; rotate_left 4; intro w6 hg6 hb6; (obtain ⟨⟨c00, c01, c02⟩, f00, f01, f02⟩ := three_cells ((hb6.block _ (by omega)).trans (new_three w _ _ _).1)); (obtain ⟨⟨c10, c11, c12⟩, f10, f11, f12⟩ := three_cells ((hb6.block _ (by omega)).trans (new_three w _ _ _).2.1)))
  case hg => exact (new_three w _ _ _).2.2
  case hn => simp [bvals_length]
  case hfit => simp [bvals_length]
  case hpos => exact (HB.out.below (below_al (below_al (below_al (Below.refl _ w) _) _) _)).src
  have h6 : Own8 w6 w.heap.size (.slice (some ⟨w.heap.size + 1 + 1, 0, none⟩) bs.length bs.length) bs := by
    refine own8_of_heap (cur := bvals bs) (by omega) ?_ (bvals_length bs) rfl (Nat.le_refl _) (by unfold maxLen; omega) (List.take_of_length_le (by rw [bvals_length]; omega))
    have := hg6.out
    rw [splice_all] at this
    exact this
  have hb : Below w.heap.size w w6 := (below_al (below_al (below_al (Below.refl _ w) _) _) _).trans (hb6.mono (by omega))
  refine bodyPost_ret (v := .agg #[.int .i64 t, .slice (some ⟨w.heap.size + 1 + 1, 0, none⟩) bs.length bs.length, .bool s]) (by simp [results, Try.results99, go_sem, c10, c11, c12]) rfl ⟨_, rfl, ?_, ?_⟩
  · refine own8_other (own8_other (own8_other (own8_other h6 ?_) ?_) ?_) ?_
    all_goals
      intro k hk
      simp [Value.ownBlock] at hk
      omega
  · exact (((hb.setCell (p := ⟨w.heap.size, 1, none⟩) (Nat.le_refl _) _).setCell (p := ⟨w.heap.size + 1, 0, none⟩) (Nat.le_succ _) _).setCell (p := ⟨w.heap.size + 1, 1, none⟩) (Nat.le_succ _) _).setCell (p := ⟨w.heap.size + 1, 2, none⟩) (Nat.le_succ _) _
/-! ### The first parcel of which something holds -/
/-- what a function value says of parcels -/
def PredG (g : Nat) (lb : Array Value) (p : Pc → Bool) (w : World) : Prop :=
  ∀ (W : World) (x : Pc) (A : Option Addr) (c : Nat), Below w.heap.size w W → Bys W (.slice A x.bytes.length c) x.bytes →
    Calls Try.prog g (#[.agg #[.int .i64 x.site, .slice A x.bytes.length c, .bool x.sp]] ++ lb) W fun e w' => e = .returned (.bool (p x)) ∧ Below W.heap.size W w'
def idxP (p : Pc → Bool) (ps : List Pc) : Int := match ps.findIdx? p with
  | some k => (k : Int)
  | none => -1
theorem idxP_hit {p : Pc → Bool} {ps : List Pc} {k : Nat} (hk : k < ps.length) (h : p (pcAt ps k) = true) (hb : ∀ j, j < k → p (pcAt ps j) = false) : idxP p ps = (k : Int) := by
  have : ps.findIdx? p = some k := by
    rw [List.findIdx?_eq_some_iff_getElem]
    refine ⟨hk, ?_, fun j hj => ?_⟩
    · simpa [pcAt, List.getD_eq_getElem?_getD, hk] using h
    · have := hb j hj
      have hj2 : j < ps.length := by omega
      simpa [pcAt, List.getD_eq_getElem?_getD, hj2] using this
  unfold idxP
  rw [this]
theorem idxP_miss {p : Pc → Bool} {ps : List Pc} (hb : ∀ j, j < ps.length → p (pcAt ps j) = false) : idxP p ps = -1 := by
  have : ps.findIdx? p = none := by
    rw [List.findIdx?_eq_none_iff]
    intro x hx
    obtain ⟨j, hj, rfl⟩ := List.getElem_of_mem hx
    have := hb j hj
    simpa [pcAt, List.getD_eq_getElem?_getD, hj] using this
  unfold idxP
  rw [this]
theorem ret_int' {k : IntKind} {a b : Int} (h : a = b) : Ending.returned (.int k a) = .returned (.int k b) := by rw [h]
set_option maxHeartbeats 2000000 in
theorem index_calls (g : Nat) (lb : Array Value) (p : Pc → Bool) (v : Value) (ps : List Pc) (w : World) (eg : ∀ args w, (callFunc g args).run Try.prog w = .ok (.enter g args) w) (hp : PredG g lb p w) (hv : Pcs w v ps) :
    Calls Try.prog 18 #[v, .func (.func g) #[] lb] w fun e w' => e = .returned (.int .i64 (idxP p ps)) ∧ Below w.heap.size w w' := by
  obtain ⟨A, cap, rfl, h1, h2, h3⟩ := hv
  unfold maxLen at h2
  have HP := Lib.hid hp
  have HC := Lib.hid h3
  clear hp h3
  go_enter Try.func18, Try.ntmps18
  go_wp2
  go_loopw [5, 8] (fun _ s8 wr => ∃ kk : Nat, kk ≤ ps.length ∧ s8 = .int .i64 kk ∧ Hid (Below w.heap.size w wr ∧ ∀ j, j < kk → p (pcAt ps j) = false)) (fun _ i _ => ps.length - (intOf i).toNat)
  case atStart => exact ⟨0, Nat.zero_le _, rfl, Lib.hid ⟨Below.refl _ w, fun j hj => absurd hj (Nat.not_lt_zero _)⟩⟩
  case round =>
    obtain ⟨kk, hkk, rfl, BW⟩ := hrel
    by_cases hlt : kk < ps.length
    · have hd : decide (kk < ps.length) = true := by simpa using hlt
      obtain ⟨b, off, rfl, hcell⟩ := HC.out (by omega)
      obtain ⟨A', c', k1, k2, k3, k4⟩ := hcell kk hlt
      have hbw := BW.out.1
      have d1 := (hbw.cell (p := ⟨b, off + kk * 3, none⟩) (World.block_lt_of_cell? w _ k1)).trans k1
      have d2 := (hbw.cell (p := ⟨b, off + kk * 3 + 1, none⟩) (World.block_lt_of_cell? w _ k2)).trans k2
      have d3 := (hbw.cell (p := ⟨b, off + kk * 3 + 2, none⟩) (World.block_lt_of_cell? w _ k3)).trans k3
      have hcall := HP.out wr (pcAt ps kk) A' c' hbw (k4.below hbw)
      have i0 : (0 : Int) ≤ (kk : Int) := by omega
      have i1 : (kk : Int) < (ps.length : Int) := by omega
      clear hcell k1 k2 k3 k4 hbw
      cases hq : p (pcAt ps kk) with
      | true =>
        rw [hq] at hcall
        have HQ := Lib.hid hq
        clear hq
        go_wp2_with (go_at_fn g; refine hcall.mono ?_; rintro e w' ⟨rfl, hb'⟩)
        go_ret
        exact ⟨ret_int' (idxP_hit hlt HQ.out BW.out.2).symm, below_tr BW.out.1 hb'⟩
      | false =>
        rw [hq] at hcall
        have HQ := Lib.hid hq
        clear hq
        go_wp2_with (go_at_fn g; refine hcall.mono ?_; rintro e w' ⟨rfl, hb'⟩)
        have HN : Hid (Below w.heap.size w w' ∧ ∀ j, j < kk + 1 → p (pcAt ps j) = false) := Lib.hid ⟨below_tr BW.out.1 hb', fun j hj => by
          by_cases e : j = kk
          · subst e; exact HQ.out
          · exact BW.out.2 j (by omega)⟩
        clear hb'
        go_roundw
        case rel => exact ⟨kk + 1, by omega, by go_num, HN⟩
        case measure => simp [intOf]; omega
    · have hd : decide (kk < ps.length) = false := by simpa using hlt
      have hk : kk = ps.length := by omega
      subst hk
      go_wp2
      go_ret
      exact ⟨ret_int' (idxP_miss BW.out.2).symm, BW.out.1⟩
end Go.Proofs.Ytnhmhnejglpijaa
