/- Four bytes by value, as they come in. -/
import Derived.Test.YtekbjgnlaompbaaDx
import Derived.Test.YtekbjgnlaompbaaDq
import Derived.Laws.IdiomArrays
namespace Go.Proofs.Ytekbjgnlaompbaa
open Go.RowKit Go.ChangeShapes Go.WideShapes
set_option linter.unusedSimpArgs false
theorem Try.cells26 : Try.prog.cellsOf 26 = 4 := by kernel_rfl
theorem list4 {α : Type} (l : List α) (h : l.length = 4) : ∃ a b c d, l = [a, b, c, d] := by
  match l, h with
  | [a, b, c, d], _ => exact ⟨a, b, c, d, rfl⟩
theorem open_four26 {H : Type} {enc : TypeId × Value → H} {w : World} {base base' : Nat} {spare : Nat → Bool} {held : Bool} {v : Value} {d : DataW H} {pl : List MemPlace}
    (ho : Value.okWide Try.prog w .any base' 26 v) (h : DataW.Trod enc Try.prog w base spare held 26 v d pl) : ∃ z, v = fourV z := by
  obtain ⟨cs, rfl, hsz, _⟩ : ∃ cs, v = .agg cs ∧ cs.size = Try.prog.cellsOf 26 ∧ Row.okWide Try.prog w .any base' 26 cs := by
    simpa [Value.okWide, Try.underlying26] using ho
  rw [Try.cells26] at hsz
  obtain ⟨l⟩ := cs
  obtain ⟨c0, c1, c2, c3, rfl⟩ := list4 l hsz
  obtain ⟨fuel, hf⟩ := h
  obtain ⟨y0, y1, y2, y3, m, hx, hy0, hy1, hy2, hy3⟩ := trod_array4 Try.underlying26 Try.cells5' hf
  obtain ⟨x0, e0, _, w0⟩ := DataW.trod_int Try.underlying5 hy0
  obtain ⟨x1, e1, _, w1⟩ := DataW.trod_int Try.underlying5 hy1
  obtain ⟨x2, e2, _, w2⟩ := DataW.trod_int Try.underlying5 hy2
  obtain ⟨x3, e3, _, w3⟩ := DataW.trod_int Try.underlying5 hy3
  simp only [List.cons.injEq, and_true] at e0 e1 e2 e3
  subst e0 e1 e2 e3
  refine ⟨packB (BitVec.ofInt 8 x0) (BitVec.ofInt 8 x1) (BitVec.ofInt 8 x2) (BitVec.ofInt 8 x3), ?_⟩
  rw [fourV_cells, pack_four]
  simp only [bvals, List.map_cons, List.map_nil, bn_ofInt w0, bn_ofInt w1, bn_ofInt w2, bn_ofInt w3]
end Go.Proofs.Ytekbjgnlaompbaa
