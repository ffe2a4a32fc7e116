/- What the row's frame gives for a slice of rows of bytes. -/
import Derived.Test.YtnhmhnejglpijaaOe
import Derived.Test.YtnhmhnejglpijaaPb
namespace Go.Proofs.Ytnhmhnejglpijaa
open Go.RowKit Go.ChangeShapes Go.WideShapes Go.Deep
set_option maxRecDepth 100000
set_option linter.unusedVariables false
set_option linter.unusedSimpArgs false
theorem open_rows {H : Type} {enc : TypeId × Value → H} {w : World} {base : Nat} {held : Bool} {fuel : Nat} {a : Option Addr} {len cap : Nat} {x : DataW H × List MemPlace}
    (h : DataW.trod enc Try.prog w base (fun _ => true) held fuel 63 [.slice a len cap] = some x) : ∃ l, RwsA w (.slice a len cap) l := by
  rcases open_slice Try.underlying63 h with ⟨e, _⟩ | ⟨a', len', cap', m, n, D, Pl, e, hb, hl, hm, hmm, hx, hc⟩
  · simp only [List.cons.injEq, Value.slice.injEq, and_true] at e
    obtain ⟨rfl, rfl, rfl⟩ := e
    exact ⟨[], none, 0, rfl, Nat.le_refl _, by simp [maxLen], fun h => by simp at h⟩
  · simp only [List.cons.injEq, Value.slice.injEq, and_true] at e
    obtain ⟨rfl, rfl, rfl⟩ := e
    have hlm : len ≤ m := by rw [hmm]; split <;> omega
    rw [Try.cells34s] at hc
    have each : ∀ i, i < len → ∃ bs : List B8, ∃ (A' : Option Addr) (c' : Nat), w.cell? (a'.add i) = some (.slice A' bs.length c') ∧ Bys w (.slice A' bs.length c') bs := by
      intro i hi
      obtain ⟨cs', h1, h2⟩ := hc i (by omega)
      obtain ⟨_, hlen, hcell⟩ := World.cells?_some h1
      match cs', hlen with
      | [v0], _ =>
        have e0 := hcell 0 (by omega)
        obtain ⟨A', c', bs, e, hbs⟩ := open_bys h2
        subst e
        rw [Addr.add_add] at e0
        exact ⟨bs, A', c', by simpa using e0, hbs⟩
    obtain ⟨q, hq⟩ := choose_lt each
    refine ⟨(List.range len).map q, some a', cap, by simp, by simpa using hl, hm, fun h0 => ?_⟩
    simp only [List.length_map, List.length_range] at h0
    have hsp : a'.spot = none := by
      obtain ⟨_, _, h1, _⟩ := hq 0 h0
      exact plain_of_cell h1
    obtain ⟨b, off, sp⟩ := a'
    simp only at hsp
    subst hsp
    refine ⟨b, off, rfl, fun j hj => ?_⟩
    simp only [List.length_map, List.length_range] at hj
    obtain ⟨A', c', h0, h1⟩ := hq j hj
    have hg : rowAt ((List.range len).map q) j = q j := by simp [rowAt, List.getD_eq_getElem?_getD, hj]
    rw [hg]
    rw [add_off] at h0
    exact ⟨_, h0, h1⟩
end Go.Proofs.Ytnhmhnejglpijaa
