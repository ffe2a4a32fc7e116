/- law25: a row among rows: walks. -/
import Derived.Test.YtnhmhnejglpijaaPb
namespace Go.Proofs.Ytnhmhnejglpijaa
open Go.RowKit
set_option maxRecDepth 100000
set_option linter.unusedSimpArgs false
set_option linter.unusedVariables false
/-- what a function value says of bytes -/
def PredR (g : Nat) (lb : Array Value) (p : List B8 → Bool) (w : World) : Prop :=
  ∀ (W : World) (x : List B8) (v : Value), Below w.heap.size w W → Bys W v x → Calls Try.prog g (#[v] ++ lb) W fun e w' => e = .returned (.bool (p x)) ∧ Below W.heap.size W w'
def idxR (p : List B8 → Bool) (rows : List (List B8)) : Int := match rows.findIdx? p with
  | some k => (k : Int)
  | none => -1
theorem idxR_hit {p : List B8 → Bool} {rows : List (List B8)} {k : Nat} (hk : k < rows.length) (h : p (rowAt rows k) = true) (hb : ∀ j, j < k → p (rowAt rows j) = false) : idxR p rows = (k : Int) := by
  have : rows.findIdx? p = some k := by
    rw [List.findIdx?_eq_some_iff_getElem]
    refine ⟨hk, ?_, fun j hj => ?_⟩
    · simpa [rowAt, List.getD_eq_getElem?_getD, hk] using h
    · have := hb j hj
      have hj2 : j < rows.length := by omega
      simpa [rowAt, List.getD_eq_getElem?_getD, hj2] using this
  unfold idxR
  rw [this]
theorem idxR_miss {p : List B8 → Bool} {rows : List (List B8)} (hb : ∀ j, j < rows.length → p (rowAt rows j) = false) : idxR p rows = -1 := by
  have : rows.findIdx? p = none := by
    rw [List.findIdx?_eq_none_iff]
    intro x hx
    obtain ⟨j, hj, rfl⟩ := List.getElem_of_mem hx
    have := hb j hj
    simpa [rowAt, List.getD_eq_getElem?_getD, hj] using this
  unfold idxR
  rw [this]
theorem idxR_any (p : List B8 → Bool) (rows : List (List B8)) : decide (idxR p rows ≥ 0) = rows.any p := by
  unfold idxR
  cases h : rows.findIdx? p with
  | none =>
    rw [List.findIdx?_eq_none_iff] at h
    simp only
    rw [eq_comm, decide_eq_false (by decide), List.any_eq_false]
    intro x hx
    simp [h x hx]
  | some k =>
    rw [List.findIdx?_eq_some_iff_getElem] at h
    obtain ⟨hk, hp, _⟩ := h
    simp only
    rw [decide_eq_true (by omega), eq_comm, List.any_eq_true]
    exact ⟨_, List.getElem_mem hk, hp⟩
set_option maxHeartbeats 2000000 in
theorem rindex_calls (g : Nat) (lb : Array Value) (p : List B8 → Bool) (v : Value) (rows : List (List B8)) (w : World) (eg : ∀ args w, (callFunc g args).run Try.prog w = .ok (.enter g args) w) (hp : PredR g lb p w) (hv : RwsA w v rows) :
    Calls Try.prog 97 #[v, .func (.func g) #[] lb] w fun e w' => e = .returned (.int .i64 (idxR p rows)) ∧ Below w.heap.size w w' := by
  obtain ⟨A, cap, rfl, h1, h2, h3⟩ := hv
  unfold maxLen at h2
  have HP := Lib.hid hp
  have HC := Lib.hid h3
  clear hp h3
  go_enter Try.func97, Try.ntmps97
  go_wp2
  go_loopw [5, 8] (fun _ s8 wr => ∃ kk : Nat, kk ≤ rows.length ∧ s8 = .int .i64 kk ∧ Hid (Below w.heap.size w wr ∧ ∀ j, j < kk → p (rowAt rows j) = false)) (fun _ i _ => rows.length - (intOf i).toNat)
  case atStart => exact ⟨0, Nat.zero_le _, rfl, Lib.hid ⟨Below.refl _ w, fun j hj => absurd hj (Nat.not_lt_zero _)⟩⟩
  case round =>
    obtain ⟨kk, hkk, rfl, BW⟩ := hrel
    by_cases hlt : kk < rows.length
    · have hd : decide (kk < rows.length) = true := by simpa using hlt
      obtain ⟨b, off, rfl, hcell⟩ := HC.out (by omega)
      obtain ⟨sv, k1, k4⟩ := hcell kk hlt
      have hbw := BW.out.1
      have d1 := (hbw.cell (p := ⟨b, off + kk, none⟩) (World.block_lt_of_cell? w _ k1)).trans k1
      have hcall := HP.out wr (rowAt rows kk) sv hbw (k4.below hbw)
      obtain ⟨A', c', rfl, _⟩ := k4
      have i0 : (0 : Int) ≤ (kk : Int) := by omega
      have i1 : (kk : Int) < (rows.length : Int) := by omega
      clear hcell k1 hbw
      cases hq : p (rowAt rows kk) with
      | true =>
        rw [hq] at hcall
        have HQ := Lib.hid hq
        clear hq
        go_wp2_with (go_at_fn g; refine hcall.mono ?_; rintro e w' ⟨rfl, hb'⟩)
        go_ret
        exact ⟨ret_int' (idxR_hit hlt HQ.out BW.out.2).symm, below_tr BW.out.1 hb'⟩
      | false =>
        rw [hq] at hcall
        have HQ := Lib.hid hq
        clear hq
        go_wp2_with (go_at_fn g; refine hcall.mono ?_; rintro e w' ⟨rfl, hb'⟩)
        have HN : Hid (Below w.heap.size w w' ∧ ∀ j, j < kk + 1 → p (rowAt rows j) = false) := Lib.hid ⟨below_tr BW.out.1 hb', fun j hj => by
          by_cases e : j = kk
          · subst e; exact HQ.out
          · exact BW.out.2 j (by omega)⟩
        clear hb'
        go_roundw
        case rel => exact ⟨kk + 1, by omega, by go_num, HN⟩
        case measure => simp [intOf]; omega
    · have hd : decide (kk < rows.length) = false := by simpa using hlt
      have hk : kk = rows.length := by omega
      subst hk
      go_wp2
      go_ret
      exact ⟨ret_int' (idxR_miss BW.out.2).symm, BW.out.1⟩
theorem rcontains_calls (g : Nat) (lb : Array Value) (p : List B8 → Bool) (v : Value) (rows : List (List B8)) (w : World) (eg : ∀ args w, (callFunc g args).run Try.prog w = .ok (.enter g args) w) (hp : PredR g lb p w) (hv : RwsA w v rows) :
    Calls Try.prog 57 #[v, .func (.func g) #[] lb] w fun e w' => e = .returned (.bool (rows.any p)) ∧ Below w.heap.size w w' := by
  have HP := Lib.hid hp
  have HV := Lib.hid hv
  have EG := Lib.hid eg
  clear hp hv eg
  have HI := Lib.hid (idxR_any p rows)
  go_enter Try.func57, Try.ntmps57
  go_wp2_with (go_at_call 97; (with_reducible refine (rindex_calls g lb p v rows _ EG.out HP.out HV.out).mono ?_); rintro e w' ⟨rfl, hb⟩)
  go_ret
  exact ⟨ret_bool HI.out, hb⟩
theorem pred_known (B0 : Nat) (s : Value) (A : Option Addr) (c : Nat) (bs : List B8) (sp : Value) (w : World) (hB : w.heap[B0]? = some (.cells #[s, .slice A bs.length c, sp] 36 (0, 0))) (hb : Bys w (.slice A bs.length c) bs) :
    PredR 58 #[.pointer (some ⟨B0, 0, none⟩)] (fun x => decide (x = bs)) w := by
  intro W x v hW hx
  show Calls Try.prog 58 #[v, .pointer (some ⟨B0, 0, none⟩)] W _
  obtain ⟨A2, c2, rfl, _⟩ := id hx
  have h1 : W.cell? ⟨B0, 1, none⟩ = some (.slice A bs.length c) := cell_of_heap ((hW.block _ (lt_of_heap hB)).trans hB)
  have HX := Lib.hid hx
  have HB := Lib.hid (hb.below hW)
  clear hx hb hB hW
  go_enter Try.func58, Try.ntmps58
  go_wp2_with (go_at_call 16; (with_reducible refine (equal_calls _ _ x bs _ HX.out HB.out).mono ?_); rintro e w1 ⟨rfl, n, rfl⟩)
  go_ret
  exact ⟨rfl, (Below.refl _ _).drewN _⟩
theorem e58 (args : Array Value) (w : World) : (callFunc 58 args).run Try.prog w = .ok (.enter 58 args) w := enters_of Try.func58 (by kernel_rfl) rfl args w
end Go.Proofs.Ytnhmhnejglpijaa
