/- What is scanned; the reference's Scan: the walk. -/
import Derived.Test.YtnhmhnejglpijaaQk
namespace Go.Proofs.Ytnhmhnejglpijaa
open Go.RowKit
set_option maxRecDepth 100000
set_option linter.unusedSimpArgs false
set_option linter.unusedVariables false
theorem firstW_err {bs : List B8} {n : Int} (hf : firstW bs = .error n) : n ≠ 0 := by
  rintro rfl
  unfold firstW at hf
  split at hf
  · cases hf
  · split at hf
    · cases hf
    · split at hf
      · cases hf
      · split at hf <;> cases hf
/-- the records that stand from a place on: where each begins, and what it holds -/
def recL (bs : List B8) : Nat → Nat → List (Nat × List B8)
  | 0, _ => []
  | f + 1, k => match firstW (bs.drop k) with
    | .ok h => (k, h) :: recL bs f (k + (h.length + 8))
    | .error _ => []
def recAt (bs : List B8) (k : Nat) : List (Nat × List B8) := recL bs (bs.length + 1 - k) k
theorem recL_fuel (bs : List B8) : ∀ f g k, bs.length + 1 - k ≤ f → bs.length + 1 - k ≤ g → k ≤ bs.length → recL bs f k = recL bs g k := by
  intro f
  induction f with
  | zero => intro g k h1 h2 hk; omega
  | succ f ih =>
    intro g k h1 h2 hk
    cases g with
    | zero => omega
    | succ g =>
      simp only [recL]
      cases hf : firstW (bs.drop k) with
      | error n => rfl
      | ok h =>
        have := firstW_len hf
        rw [List.length_drop] at this
        simp only
        rw [ih g (k + (h.length + 8)) (by omega) (by omega) (by omega)]
theorem recAt_ok {bs h : List B8} {k : Nat} (hk : k ≤ bs.length) (hf : firstW (bs.drop k) = .ok h) : recAt bs k = (k, h) :: recAt bs (k + (h.length + 8)) := by
  have hl := firstW_len hf
  rw [List.length_drop] at hl
  unfold recAt
  obtain ⟨f, hf'⟩ : ∃ f, bs.length + 1 - k = f + 1 := ⟨bs.length - k, by omega⟩
  rw [hf', recL, hf]
  simp only
  rw [recL_fuel bs f (bs.length + 1 - (k + (h.length + 8))) _ (by omega) (by omega) (by omega)]
theorem recAt_err {bs : List B8} {k : Nat} {n : Int} (hk : k ≤ bs.length) (hf : firstW (bs.drop k) = .error n) : recAt bs k = [] := by
  unfold recAt
  obtain ⟨f, hf'⟩ : ∃ f, bs.length + 1 - k = f + 1 := ⟨bs.length - k, by omega⟩
  rw [hf', recL, hf]
def endL (l : List (Nat × List B8)) : Nat := (l.map fun p => p.2.length + 8).sum
theorem endL_snoc (l : List (Nat × List B8)) (p : Nat × List B8) : endL (l ++ [p]) = endL l + (p.2.length + 8) := by simp [endL]
/-- what a scan keeps: the records that have been, and the place -/
structure ScanR (bs : List B8) (pre : List (Nat × List B8)) (k : Nat) : Prop where
  le : k ≤ bs.length
  eq : recAt bs 0 = pre ++ recAt bs k
  sum : k = endL pre
theorem ScanR.start (bs : List B8) : ScanR bs [] 0 := ⟨Nat.zero_le _, rfl, rfl⟩
theorem ScanR.next {bs x : List B8} {pre : List (Nat × List B8)} {k : Nat} (h : ScanR bs pre k) (hf : firstW (bs.drop k) = .ok x) : ScanR bs (pre ++ [(k, x)]) (k + (x.length + 8)) := by
  have hl := firstW_len hf
  rw [List.length_drop] at hl
  refine ⟨by have := h.le; omega, ?_, ?_⟩
  · rw [h.eq, recAt_ok h.le hf, List.append_assoc]
    rfl
  · rw [endL_snoc, ← h.sum]
theorem ScanR.done {bs : List B8} {pre : List (Nat × List B8)} {k : Nat} {n : Int} (h : ScanR bs pre k) (hf : firstW (bs.drop k) = .error n) : pre = recAt bs 0 ∧ k = endL (recAt bs 0) := by
  have : recAt bs 0 = pre := by rw [h.eq, recAt_err h.le hf, List.append_nil]
  exact ⟨this.symm, by rw [this]; exact h.sum⟩
theorem ScanR.few {bs : List B8} {pre : List (Nat × List B8)} {k : Nat} (h : ScanR bs pre k) : pre.length ≤ bs.length := by
  have h1 := h.sum
  have h2 := h.le
  have h3 : ∀ l : List (Nat × List B8), l.length ≤ endL l := by
    intro l
    induction l with
    | nil => simp [endL]
    | cons a l ih => simp only [endL, List.map_cons, List.sum_cons, List.length_cons] at *; omega
  have := h3 pre
  omega
/-- bytes from a place on -/
theorem slice_from (A : Option Addr) (n c m : Nat) (hm : m ≤ n) (hn : n ≤ c) : ∃ A2 c2, (∀ X : World, (Instr.sliceAt 34 (.slice A n c) (some (.int .i64 (m : Int))) none none).run Try.prog X = .ok (.slice A2 (n - m) c2) X) ∧ c2 ≤ c ∧ n - m ≤ c2 ∧
    ∀ (w : World) (bs : List B8), bs.length = n → (Bys w (.slice A n c) bs → Bys w (.slice A2 (n - m) c2) (bs.drop m)) ∧ (Bt w (.slice A n c) bs → Bt w (.slice A2 (n - m) c2) (bs.drop m)) := by
  have hrun : ∀ X : World, (Instr.sliceAt 34 (.slice A n c) (some (.int .i64 (m : Int))) none none).run Try.prog X = .ok (.slice (if c = m then A else A.map (·.add (m * 1))) (n - m) (c - m)) X := by
    intro X
    have hu : Try.prog.underlying 34 = some (.slice (Try.prog.elem 34)) := by kernel_rfl
    have h := run_slice_l (P := Try.prog) X 34 A n c hu .i64 (m : Int) (by omega) (by omega)
    have hs : (sizeOf (Try.prog.elem 34)).run Try.prog X = .ok 1 X := by kernel_rfl
    rw [run_sliceAt_slice X 34 _ _ _ _ hu, h, hs]
    simp only [Result.andThen, sliced, Int.toNat_natCast]
  refine ⟨_, c - m, hrun, by omega, by omega, fun w bs hb => ?_⟩
  subst hb
  have key : Bys w (.slice A bs.length c) bs → Bys w (.slice (if c = m then A else A.map (·.add (m * 1))) (bs.length - m) (c - m)) (bs.drop m) := by
    intro h
    by_cases hc : c = m
    · obtain ⟨A', c', e, h1, h2, h3, h4⟩ := h
      cases e
      have hd : bs.drop m = [] := List.drop_eq_nil_of_le (by omega)
      rw [hd, if_pos hc, show bs.length - m = 0 by omega, show c - m = 0 by omega]
      exact ⟨A, 0, rfl, Nat.le_refl _, by simp [maxLen], (fun _ => rfl), fun h => by simp at h⟩
    · rw [if_neg hc]
      cases A with
      | none =>
        obtain ⟨A', c', e, h1, h2, h3, h4⟩ := h
        cases e
        have := h3 rfl
        omega
      | some a =>
        by_cases h0 : 0 < bs.length
        · obtain ⟨A', c', e, h1, h2, h3, h4⟩ := id h
          cases e
          obtain ⟨b, off, e, _⟩ := h4 (by omega)
          cases e
          have := h.drop m (bs.length - m) (c - m) (by omega) rfl
          simpa [add_off] using this
        · obtain ⟨A', c', e, h1, h2, h3, h4⟩ := h
          cases e
          have hd : bs.drop m = [] := List.drop_eq_nil_of_le (by omega)
          rw [hd, show bs.length - m = 0 by omega]
          exact ⟨_, c - m, rfl, Nat.zero_le _, by omega, (fun h => by cases h), fun h => by simp at h⟩
  refine ⟨key, fun h => ⟨key h.1, fun b off n' c' e h0 => ?_⟩⟩
  rw [List.length_drop] at h0
  obtain ⟨A', c'', ee, h1, h2, h3, h4⟩ := id h.1
  cases ee
  obtain ⟨b1, off1, e1, _⟩ := h4 (by omega)
  subst e1
  have hc : c ≠ m := by omega
  rw [if_neg hc] at e
  simp only [Option.map_some, add_off, Value.slice.injEq, Option.some.injEq, Addr.mk.injEq] at e
  obtain ⟨⟨rfl, _⟩, _⟩ := e
  exact h.2 b1 off1 _ _ rfl (by omega)
end Go.Proofs.Ytnhmhnejglpijaa
