/- Pairs of words, as they come in. -/
import Derived.Test.YtekbjgnlaompbaaDt
import Derived.Test.YtekbjgnlaompbaaDr
import Derived.Deep.Slices
import Derived.ChangeSame
namespace Go.Proofs.Ytekbjgnlaompbaa
open Go.RowKit Go.ChangeShapes Go.WideShapes Go.Deep
set_option linter.unusedSimpArgs false
section
variable {H : Type} {enc : TypeId × Value → H} {P : Program} {w : World} {base : Nat} {spare : Nat → Bool} {held : Bool}
theorem trod_array2 {t e : TypeId} {fuel : Nat} {c0 c1 : Value} {x : DataW H × List MemPlace} (ht : P.underlying t = some (.array 2 e)) (hce : P.cellsOf e = 1)
    (h : DataW.trod enc P w base spare held fuel t [c0, c1] = some x) :
    ∃ y0 y1 n, x = (.agg [y0.1, y1.1], y0.2 ++ y1.2) ∧ DataW.trod enc P w base spare held n e [c0] = some y0 ∧ DataW.trod enc P w base spare held n e [c1] = some y1 := by
  cases fuel with
  | zero => simp [DataW.trod] at h
  | succ n =>
    unfold DataW.trod at h
    rw [ht] at h
    have r2 : List.range 2 = [0, 1] := rfl
    simp [r2, hce] at h
    obtain ⟨_, h⟩ := h
    cases h0 : DataW.trod enc P w base spare held n e [c0] with
    | none => simp [h0] at h
    | some y0 =>
      cases h1 : DataW.trod enc P w base spare held n e [c1] with
      | none => simp [h0, h1] at h
      | some y1 =>
        simp [h0, h1] at h
        exact ⟨y0, y1, n, h.symm, h0, h1⟩
end
theorem Try.cells25 : Try.prog.cellsOf 25 = 2 := by kernel_rfl
theorem Try.cells24 : Try.prog.cellsOf 24 = 1 := by kernel_rfl
theorem open_pairs {H : Type} {enc : TypeId × Value → H} {w : World} {base : Nat} {spare : Nat → Bool} {held : Bool} {fuel : Nat} {a : Option Addr} {len cap : Nat} {x : DataW H × List MemPlace}
    (h : DataW.trod enc Try.prog w base spare held fuel 22 [.slice a len cap] = some x) : ∃ ps, Prs w (.slice a len cap) ps := by
  rcases open_slice Try.underlying22 h with ⟨e, _⟩ | ⟨a', len', cap', m, n, D, Pl, e, hb, hl, hm, hmm, hx, hc⟩
  · simp only [List.cons.injEq, Value.slice.injEq, and_true] at e
    obtain ⟨rfl, rfl, rfl⟩ := e
    exact ⟨[], none, 0, rfl, by simp, fun h => by simp at h⟩
  · simp only [List.cons.injEq, Value.slice.injEq, and_true] at e
    obtain ⟨rfl, rfl, rfl⟩ := e
    have hlm : len ≤ m := by rw [hmm]; split <;> omega
    rw [Try.cells25] at hc
    have each : ∀ i, i < len → ∃ q : W32 × W32, w.cell? (a'.add (i * 2)) = some (.int .u32 (nb q.1)) ∧ w.cell? (a'.add (i * 2 + 1)) = some (.int .u32 (nb q.2)) := by
      intro i hi
      obtain ⟨cs', h1, h2⟩ := hc i (by omega)
      obtain ⟨_, hlen, hcell⟩ := World.cells?_some h1
      match cs', hlen with
      | [v0, v1], _ =>
        obtain ⟨y0, y1, n', _, g0, g1⟩ := trod_array2 Try.underlying25 Try.cells24 h2
        have e0 := hcell 0 (by omega)
        have e1 := hcell 1 (by omega)
        rw [add_add] at e0 e1
        obtain ⟨n0, k0, _, f0⟩ := DataW.trod_int Try.underlying24 g0
        obtain ⟨n1, k1, _, f1⟩ := DataW.trod_int Try.underlying24 g1
        simp only [List.cons.injEq, and_true] at k0 k1
        subst k0 k1
        refine ⟨(BitVec.ofInt 32 n0, BitVec.ofInt 32 n1), ?_, ?_⟩
        · rw [nb_ofInt f0]
          simpa using e0
        · rw [nb_ofInt f1]
          simpa using e1
    obtain ⟨q, hq⟩ := choose_lt each
    refine ⟨(List.range len).map q, some a', cap, by simp, by simp; omega, fun h0 => ?_⟩
    simp only [List.length_map, List.length_range] at h0
    have hsp : a'.spot = none := by
      have h1 := (hq 0 h0).1
      exact plain_of_cell h1
    obtain ⟨b, off, sp⟩ := a'
    simp only at hsp
    subst hsp
    refine ⟨b, off, rfl, fun j hj => ?_⟩
    simp only [List.length_map, List.length_range] at hj
    obtain ⟨h1, h2⟩ := hq j hj
    rw [add_off] at h1 h2
    have hg : ((List.range len).map q).getD j (0, 0) = q j := by simp [List.getD_eq_getElem?_getD, hj]
    rw [hg]
    exact ⟨h1, by rw [Nat.add_assoc]; exact h2⟩
end Go.Proofs.Ytekbjgnlaompbaa
