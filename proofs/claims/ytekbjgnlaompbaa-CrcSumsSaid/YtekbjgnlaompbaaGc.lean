/- Rows of bytes and words, as they come in. -/
import Derived.Test.YtekbjgnlaompbaaGb
import Derived.Test.YtekbjgnlaompbaaDr
import Derived.Deep.Matrix
import Derived.Deep.Slices
namespace Go.Proofs.Ytekbjgnlaompbaa
open Go.RowKit Go.ChangeShapes Go.WideShapes Go.Deep
set_option linter.unusedSimpArgs false
theorem Try.cells29 : Try.prog.cellsOf 29 = 1 := by kernel_rfl
theorem Try.cells5s : Try.prog.cellsOf 5 = 1 := by kernel_rfl
theorem Try.cells24s : Try.prog.cellsOf 24 = 1 := by kernel_rfl
theorem open_rowsA {H : Type} {enc : TypeId × Value → H} {w : World} {base : Nat} {held : Bool} {fuel : Nat} {a : Option Addr} {len cap : Nat} {x : DataW H × List MemPlace}
    (h : DataW.trod enc Try.prog w base (fun _ => true) held fuel 43 [.slice a len cap] = some x) : ∃ rows, RwsA w (.slice a len cap) rows := by
  rcases open_int_rows Try.underlying43 Try.underlying29 Try.underlying5 Try.cells29 Try.cells5s h with ⟨e, _⟩ | ⟨a', len', cap', A, L, C, Z, e, hb, hl, hm, hx, hc⟩
  · simp only [List.cons.injEq, Value.slice.injEq, and_true] at e
    obtain ⟨rfl, rfl, rfl⟩ := e
    exact ⟨[], none, 0, rfl, by simp, fun h => by simp at h⟩
  · simp only [List.cons.injEq, Value.slice.injEq, and_true] at e
    obtain ⟨rfl, rfl, rfl⟩ := e
    have each : ∀ i, i < len → ∃ bs : List B8, w.cell? (a'.add i) = some (.slice (A i) (L i) (C i)) ∧ Bys w (.slice (A i) (L i) (C i)) bs := by
      intro i hi
      obtain ⟨h1, h2, h3, h4, h5, h6, h7⟩ := hc i (by omega)
      have hrow : IsRow .u8 w (A i) (L i) (C i) (Z i) := by
        cases hA : A i with
        | none =>
          have := h6 hA
          refine .inl ⟨rfl, by omega, this, List.eq_nil_of_length_eq_zero (by omega)⟩
        | some ad => exact .inr ⟨ad, rfl, h2, h3, h4, fun j hj => (h7 ad hA).2 j (by omega), h5⟩
      obtain ⟨bs, _, hbs⟩ := isrow_bys hrow
      exact ⟨bs, h1, hbs⟩
    obtain ⟨q, hq⟩ := choose_lt each
    refine ⟨(List.range len).map q, some a', cap, by simp, by simp; omega, fun h0 => ?_⟩
    simp only [List.length_map, List.length_range] at h0
    have hsp : a'.spot = none := plain_of_cell (by have h1 := (hq 0 h0).1; exact h1)
    obtain ⟨b, off, sp⟩ := a'
    simp only at hsp
    subst hsp
    refine ⟨b, off, rfl, fun j hj => ?_⟩
    simp only [List.length_map, List.length_range] at hj
    obtain ⟨h1, h2⟩ := hq j hj
    rw [add_off] at h1
    have hg : ((List.range len).map q).getD j [] = q j := by simp [List.getD_eq_getElem?_getD, hj]
    rw [hg]
    exact ⟨_, h1, h2⟩
theorem isrow_wds {w : World} {a : Option Addr} {len cap : Nat} {zs : List Int} (h : IsRow .u32 w a len cap zs) : ∃ ws : List W32, WdsA w (.slice a len cap) ws := by
  rcases h with ⟨rfl, rfl, rfl, rfl⟩ | ⟨x, rfl, hl, hm, hz, hc, hw⟩
  · exact ⟨[], none, 0, rfl, by simp, fun h => by simp at h⟩
  · have hlen : ((zs.take len).map (BitVec.ofInt 32)).length = len := by
      rw [List.length_map, List.length_take]
      omega
    refine ⟨(zs.take len).map (BitVec.ofInt 32), some x, cap, by rw [hlen], by rw [hlen]; omega, fun h0 => ?_⟩
    rw [hlen] at h0
    have hp := plain_of_cell (hc 0 (by omega))
    obtain ⟨b, off, sp⟩ := x
    simp [Addr.add] at hp
    subst hp
    refine ⟨b, off, rfl, fun j hj => ?_⟩
    rw [hlen] at hj
    have hj2 := hc j (by omega)
    rw [add_off] at hj2
    rw [hj2]
    have hget : ((zs.take len).map (BitVec.ofInt 32)).getD j 0#32 = BitVec.ofInt 32 (zs.getD j 0) := by
      rw [List.getD_eq_getElem?_getD, List.getD_eq_getElem?_getD, List.getElem?_map, List.getElem?_take, if_pos hj]
      rw [List.getElem?_eq_getElem (by omega)]
      rfl
    rw [hget, nb_ofInt]
    apply hw
    rw [List.getD_eq_getElem?_getD, List.getElem?_eq_getElem (by omega)]
    exact List.getElem_mem _
end Go.Proofs.Ytekbjgnlaompbaa
