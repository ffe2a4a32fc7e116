/- law25: NetOrders: the plain law. -/
import Derived.Test.YtnhmhnejglpijaaNz
namespace Go.Proofs.Ytnhmhnejglpijaa
open Go.RowKit
set_option maxRecDepth 100000
set_option linter.unusedSimpArgs false
set_option linter.unusedVariables false
/-- what Send makes of a list on an empty net -/
theorem sentAll_take (ps : List Pc) : ∀ k, k ≤ ps.length → k ≤ 1000 → sentAll (ps.take k) ([], 0) = ((ps.take k).take 64, ((k - 64 : Nat) : Int)) := by
  intro k
  induction k with
  | zero => intro _ _; simp [sentAll]
  | succ k ih =>
    intro hk h1
    rw [sentAll_succ ps _ k (by omega), ih (by omega) (by omega), sentPs, sentLost]
    have hl : ((ps.take k).take 64).length = min 64 k := by simp; omega
    by_cases h : k < 64
    · have h2 : ((ps.take k).take 64).length < 64 := by rw [hl]; omega
      have e1 : (ps.take k).take 64 = ps.take k := List.take_of_length_le (by simp; omega)
      have e2 : (ps.take (k + 1)).take 64 = ps.take (k + 1) := List.take_of_length_le (by simp; omega)
      rw [if_pos h2, if_pos h2, e1, e2, take_pc ps k (by omega)]
      exact Prod.ext rfl (by show ((k - 64 : Nat) : Int) = ((k + 1 - 64 : Nat) : Int); omega)
    · have h2 : ¬ ((ps.take k).take 64).length < 64 := by rw [hl]; omega
      have e1 : (ps.take k).take 64 = ps.take 64 := by rw [List.take_take, Nat.min_eq_left (by omega)]
      have e2 : (ps.take (k + 1)).take 64 = ps.take 64 := by rw [List.take_take, Nat.min_eq_left (by omega)]
      rw [if_neg h2, if_neg h2, e1, e2]
      exact Prod.ext rfl (by show min (((k - 64 : Nat) : Int) + 1) 4611686018427387904 = ((k + 1 - 64 : Nat) : Int); omega)
theorem run_take (q : List Pc) (lost : Int) : ∀ j, j ≤ q.length → runAll (takeAll j) ⟨q, lost, [], 0⟩ = ⟨q.drop j, lost, q.take j, 0⟩ := by
  intro j
  induction j with
  | zero => intro _; simp [runAll, takeAll]
  | succ j ih =>
    intro hj
    have e : takeAll (j + 1) = takeAll j ++ [⟨1, 0, 0, 0#32⟩] := by rw [takeAll, List.replicate_succ']; rfl
    rw [e, runAll, List.foldl_append]
    rw [show List.foldl runStep ⟨q, lost, [], 0⟩ (takeAll j) = ⟨q.drop j, lost, q.take j, 0⟩ from ih (by omega)]
    have hd : doesP (q.drop j) lost (q.take j) 1 0 0 0#32 = (0, q.drop (j + 1), lost, q.take (j + 1)) := by
      have h0 : (0 : Int) < ((q.drop j).length : Int) := by rw [List.length_drop]; omega
      rw [doesP, if_pos (by decide), if_pos ⟨by decide, h0⟩, if_pos rfl]
      have e1 : (q.drop j).eraseIdx (0 : Int).toNat = q.drop (j + 1) := by
        rw [show (0 : Int).toNat = 0 from rfl, List.eraseIdx_zero, List.tail_drop]
      have e2 : pcAt (q.drop j) (0 : Int).toNat = pcAt q j := by simp [pcAt, List.getD_eq_getElem?_getD]
      rw [e1, e2, take_pc q j (by omega)]
    simp [runStep, hd]
theorem emptyN_all (q : List Pc) (lost : Int) (h : rightB q lost = true) : emptyN q lost = (0, ⟨[], lost, q, 0⟩) := by
  rw [emptyN, runN, if_pos h, run_take q lost q.length (Nat.le_refl _), List.drop_length, List.take_length]
theorem firstN_idx (q : List Pc) (lost site : Int) (h : rightB q lost = true) : firstN q lost site = (if idxP (fun p => p.site == site) q ≥ 0 then (idxP (fun p => p.site == site) q, true) else (0, false)) := by
  have key : ∀ k, k ≤ q.length → (∀ j, j < k → (pcAt q j).site ≠ site) → atSite q site k = [] := by
    intro k
    induction k with
    | zero => intro _ _; rfl
    | succ k ih =>
      intro hk hj
      rw [atSite_miss (hj k (by omega)), ih (by omega) (fun j h => hj j (by omega))]
  rw [firstN, if_pos h]
  by_cases hex : ∃ k, k < q.length ∧ (pcAt q k).site = site
  · obtain ⟨k, hk, hs, hmin⟩ : ∃ k, k < q.length ∧ (pcAt q k).site = site ∧ ∀ j, j < k → (pcAt q j).site ≠ site := by
      obtain ⟨k0, h0⟩ := hex
      induction k0 using Nat.strongRecOn with
      | _ k0 ih =>
        by_cases hb : ∃ j, j < k0 ∧ (pcAt q j).site = site
        · obtain ⟨j, hj, hjs⟩ := hb
          exact ih j hj ⟨by omega, hjs⟩
        · exact ⟨k0, h0.1, h0.2, fun j hj e => hb ⟨j, hj, e⟩⟩
    have hi : idxP (fun p => p.site == site) q = (k : Int) := idxP_hit hk (by simpa using hs) (fun j hj => by simpa using hmin j hj)
    obtain ⟨t, ht⟩ := atSite_prefix q site (k := k + 1) (n := q.length) (by omega)
    rw [atSite_hit hs, key k (by omega) hmin] at ht
    rw [hi, ← ht, if_pos (by omega)]
    rfl
  · have hi : idxP (fun p => p.site == site) q = -1 := idxP_miss (fun j hj => by simpa using fun e => hex ⟨j, hj, e⟩)
    rw [key q.length (Nat.le_refl _) (fun j hj e => hex ⟨j, hj, e⟩), hi]
    rfl
theorem right_sent (ps : List Pc) (lost : Int) (h : ps.all sendable = true) (hl : lost ≤ 1000) : rightB (ps.take 64) lost = true := by
  have h1 : (ps.take 64).length ≤ 64 := by simp; omega
  have h2 : lost ≤ 4611686018427387904 := by omega
  have h3 : (ps.take 64).all mayP = true := by
    rw [List.all_eq_true] at h ⊢
    intro p hp
    have := h p (List.mem_of_mem_take hp)
    simp only [sendable, Bool.and_eq_true] at this
    exact this.1
  rw [rightB, decide_eq_true h1, decide_eq_true h2, h3]; rfl
theorem sendN_all (ps : List Pc) (hl : ps.length ≤ 1000) : sendN [] 0 ps = if ps.all sendable = true then (0, ps.take 64, ((ps.length - 64 : Nat) : Int)) else (2, [], 0) := by
  rw [sendN, if_pos (by decide)]
  have := sentAll_take ps ps.length (Nat.le_refl _) hl
  rw [List.take_length] at this
  rw [this]
end Go.Proofs.Ytnhmhnejglpijaa
