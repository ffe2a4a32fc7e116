/- What the row's frame gives for a slice of parcels. -/
import Derived.Test.YtnhmhnejglpijaaDr
import Derived.Test.YtnhmhnejglpijaaNb
import Derived.Deep.Slices
import Derived.Deep.Strs
import Derived.ChangeSame
namespace Go.Proofs.Ytnhmhnejglpijaa
open Go.RowKit Go.ChangeShapes Go.WideShapes Go.Deep
set_option maxRecDepth 100000
set_option linter.unusedVariables false
set_option linter.unusedSimpArgs false
theorem Try.cells36 : Try.prog.cellsOf 36 = 3 := by kernel_rfl
theorem Try.cells34s : Try.prog.cellsOf 34 = 1 := by kernel_rfl
theorem Try.cells3s : Try.prog.cellsOf 3 = 1 := by kernel_rfl
theorem Try.cells4s : Try.prog.cellsOf 4 = 1 := by kernel_rfl
theorem Try.cells5s : Try.prog.cellsOf 5 = 1 := by kernel_rfl
theorem open_bys {H : Type} {enc : TypeId × Value → H} {w : World} {base : Nat} {held : Bool} {fuel : Nat} {v : Value} {x : DataW H × List MemPlace}
    (h : DataW.trod enc Try.prog w base (fun _ => true) held fuel 34 [v] = some x) : ∃ (A : Option Addr) (c : Nat) (bs : List B8), v = .slice A bs.length c ∧ Bys w (.slice A bs.length c) bs := by
  rcases open_ints Try.underlying34 Try.underlying5 Try.cells5s h with ⟨hcs, _⟩ | ⟨x, l, c, zs, hcs, _, hl, hm, hz, _, hcell, hwz⟩
  · simp only [List.cons.injEq, and_true] at hcs
    subst hcs
    exact ⟨none, 0, [], rfl, none, 0, rfl, Nat.le_refl _, by simp [maxLen], fun _ => rfl, fun h => by simp at h⟩
  · simp only [List.cons.injEq, and_true] at hcs
    subst hcs
    have hrow : IsRow .u8 w (some x) l c zs := .inr ⟨_, rfl, hl, hm, by simpa using hz, hcell, hwz⟩
    obtain ⟨bs, hbl, hb⟩ := isrow_bys hrow
    exact ⟨some x, c, bs, by rw [hbl], by rw [hbl]; exact hb⟩
theorem open_parcels {H : Type} {enc : TypeId × Value → H} {w : World} {base : Nat} {held : Bool} {fuel : Nat} {a : Option Addr} {len cap : Nat} {x : DataW H × List MemPlace}
    (h : DataW.trod enc Try.prog w base (fun _ => true) held fuel 22 [.slice a len cap] = some x) : ∃ ps, Pcs w (.slice a len cap) ps := by
  rcases open_slice Try.underlying22 h with ⟨e, _⟩ | ⟨a', len', cap', m, n, D, Pl, e, hb, hl, hm, hmm, hx, hc⟩
  · simp only [List.cons.injEq, Value.slice.injEq, and_true] at e
    obtain ⟨rfl, rfl, rfl⟩ := e
    exact ⟨[], none, 0, rfl, Nat.le_refl _, by simp [maxLen], fun h => by simp at h⟩
  · simp only [List.cons.injEq, Value.slice.injEq, and_true] at e
    obtain ⟨rfl, rfl, rfl⟩ := e
    have hlm : len ≤ m := by rw [hmm]; split <;> omega
    rw [Try.cells36] at hc
    have each : ∀ i, i < len → ∃ q : Pc, ∃ (A' : Option Addr) (c' : Nat), w.cell? (a'.add (i * 3)) = some (.int .i64 q.site) ∧ w.cell? (a'.add (i * 3 + 1)) = some (.slice A' q.bytes.length c') ∧ w.cell? (a'.add (i * 3 + 2)) = some (.bool q.sp) ∧ Bys w (.slice A' q.bytes.length c') q.bytes := by
      intro i hi
      obtain ⟨cs', h1, h2⟩ := hc i (by omega)
      obtain ⟨_, hlen, hcell⟩ := World.cells?_some h1
      match cs', hlen with
      | [v0, v1, v2], _ =>
        obtain ⟨y0, y1, y2, n', _, _, g0, g1, g2⟩ := trod_struct3 Try.underlying36 h2
        simp [Try.cells3s, Try.cells34s, Try.cells4s] at g0 g1 g2
        have e0 := hcell 0 (by omega)
        have e1 := hcell 1 (by omega)
        have e2 := hcell 2 (by omega)
        rw [Addr.add_add] at e0 e1 e2
        obtain ⟨n0, k0, _, f0⟩ := DataW.trod_int Try.underlying3 g0
        obtain ⟨A', c', bs, k1, hbs⟩ := open_bys g1
        obtain ⟨b2, k2, _⟩ := DataW.trod_bool Try.underlying4 g2
        simp only [List.cons.injEq, and_true] at k0 k2
        subst k0 k1 k2
        exact ⟨⟨n0, bs, b2⟩, A', c', by simpa using e0, by simpa using e1, by simpa using e2, hbs⟩
    obtain ⟨q, hq⟩ := choose_lt each
    refine ⟨(List.range len).map q, some a', cap, by simp, by simpa using hl, hm, fun h0 => ?_⟩
    simp only [List.length_map, List.length_range] at h0
    have hsp : a'.spot = none := by
      obtain ⟨_, _, h1, _⟩ := hq 0 h0
      exact plain_of_cell h1
    obtain ⟨b, off, sp⟩ := a'
    simp only at hsp
    subst hsp
    refine ⟨b, off, rfl, fun j hj => ?_⟩
    simp only [List.length_map, List.length_range] at hj
    obtain ⟨A', c', h1, h2, h3, h4⟩ := hq j hj
    have hg : pcAt ((List.range len).map q) j = q j := by simp [pcAt, List.getD_eq_getElem?_getD, hj]
    rw [hg]
    rw [add_off] at h1 h2 h3
    exact ⟨A', c', h1, h2, h3, h4⟩
end Go.Proofs.Ytnhmhnejglpijaa
