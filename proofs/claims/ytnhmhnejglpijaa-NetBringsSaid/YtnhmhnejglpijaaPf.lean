/- What the row's frame gives for a slice of acts. -/
import Derived.Test.YtnhmhnejglpijaaOe
import Derived.Test.YtnhmhnejglpijaaPd
namespace Go.Proofs.Ytnhmhnejglpijaa
open Go.RowKit Go.ChangeShapes Go.WideShapes Go.Deep
set_option maxRecDepth 100000
set_option linter.unusedVariables false
set_option linter.unusedSimpArgs false
theorem Try.cells94 : Try.prog.cellsOf 94 = 7 := by kernel_rfl
theorem Try.cells48 : Try.prog.cellsOf 48 = 4 := by kernel_rfl
theorem Try.cells46s : Try.prog.cellsOf 46 = 1 := by kernel_rfl
section
variable {H : Type} {enc : TypeId × Value → H} {P : Program} {w : World} {base : Nat} {spare : Nat → Bool} {held : Bool}
theorem trod_struct4' {t : TypeId} {f0 f1 f2 f3 : Field} {fuel : Nat} {cs : List Value} {x : DataW H × List MemPlace} (ht : P.underlying t = some (.struct #[f0, f1, f2, f3])) (h : DataW.trod enc P w base spare held fuel t cs = some x) :
    ∃ y0 y1 y2 y3 n, cs.length = P.cellsOf t ∧ DataW.trod enc P w base spare held n f0.type ((cs.drop f0.offset).take (P.cellsOf f0.type)) = some y0 ∧
      DataW.trod enc P w base spare held n f1.type ((cs.drop f1.offset).take (P.cellsOf f1.type)) = some y1 ∧ DataW.trod enc P w base spare held n f2.type ((cs.drop f2.offset).take (P.cellsOf f2.type)) = some y2 ∧
      DataW.trod enc P w base spare held n f3.type ((cs.drop f3.offset).take (P.cellsOf f3.type)) = some y3 := by
  obtain ⟨xs, n, _, rfl, hl, hlen, hf⟩ := DataW.trod_struct ht h
  match xs, hlen with
  | [y0, y1, y2, y3], _ => exact ⟨y0, y1, y2, y3, n, hl, by simpa using hf 0 f0 rfl, by simpa using hf 1 f1 rfl, by simpa using hf 2 f2 rfl, by simpa using hf 3 f3 rfl⟩
end
theorem open_acts {H : Type} {enc : TypeId × Value → H} {w : World} {base : Nat} {held : Bool} {fuel : Nat} {a : Option Addr} {len cap : Nat} {x : DataW H × List MemPlace}
    (h : DataW.trod enc Try.prog w base (fun _ => true) held fuel 92 [.slice a len cap] = some x) : ∃ l, Acs w (.slice a len cap) l := by
  rcases open_slice Try.underlying92 h with ⟨e, _⟩ | ⟨a', len', cap', m, n, D, Pl, e, hb, hl, hm, hmm, hx, hc⟩
  · simp only [List.cons.injEq, Value.slice.injEq, and_true] at e
    obtain ⟨rfl, rfl, rfl⟩ := e
    exact ⟨[], none, 0, rfl, Nat.le_refl _, by simp [maxLen], fun h => by simp at h⟩
  · simp only [List.cons.injEq, Value.slice.injEq, and_true] at e
    obtain ⟨rfl, rfl, rfl⟩ := e
    have hlm : len ≤ m := by rw [hmm]; split <;> omega
    rw [Try.cells94] at hc
    have each : ∀ i, i < len → ∃ q : Ac, ∃ (A' : Option Addr) (c' : Nat), w.cell? (a'.add (i * 7)) = some (.bool q.sends) ∧ w.cell? (a'.add (i * 7 + 1)) = some (.int .i64 q.dest) ∧ w.cell? (a'.add (i * 7 + 2)) = some (.slice A' q.bytes.length c') ∧
        w.cell? (a'.add (i * 7 + 3)) = some (.int .i64 q.kind) ∧ w.cell? (a'.add (i * 7 + 4)) = some (.int .i64 q.at_) ∧ w.cell? (a'.add (i * 7 + 5)) = some (.int .i64 q.bit) ∧ w.cell? (a'.add (i * 7 + 6)) = some (.int .u32 (nb q.mask)) ∧ Bys w (.slice A' q.bytes.length c') q.bytes := by
      intro i hi
      obtain ⟨cs', h1, h2⟩ := hc i (by omega)
      obtain ⟨_, hlen, hcell⟩ := World.cells?_some h1
      match cs', hlen with
      | [v0, v1, v2, v3, v4, v5, v6], _ =>
        obtain ⟨y0, y1, y2, y3, n', _, g0, g1, g2, g3⟩ := trod_struct4' Try.underlying94 h2
        simp [Try.cells3s, Try.cells34s, Try.cells4s, Try.cells48] at g0 g1 g2 g3
        obtain ⟨z0, z1, z2, z3, n2, _, k0, k1, k2, k3⟩ := trod_struct4' Try.underlying48 g3
        simp [Try.cells3s, Try.cells46s] at k0 k1 k2 k3
        have e0 := hcell 0 (by omega)
        have e1 := hcell 1 (by omega)
        have e2 := hcell 2 (by omega)
        have e3 := hcell 3 (by omega)
        have e4 := hcell 4 (by omega)
        have e5 := hcell 5 (by omega)
        have e6 := hcell 6 (by omega)
        rw [Addr.add_add] at e0 e1 e2 e3 e4 e5 e6
        obtain ⟨b0, j0, _⟩ := DataW.trod_bool Try.underlying4 g0
        obtain ⟨n1, j1, _, _⟩ := DataW.trod_int Try.underlying3 g1
        obtain ⟨A', c', bs, j2, hbs⟩ := open_bys g2
        obtain ⟨n3, j3, _, _⟩ := DataW.trod_int Try.underlying3 k0
        obtain ⟨n4, j4, _, _⟩ := DataW.trod_int Try.underlying3 k1
        obtain ⟨n5, j5, _, _⟩ := DataW.trod_int Try.underlying3 k2
        obtain ⟨n6, j6, _, f6⟩ := DataW.trod_int Try.underlying46 k3
        simp only [List.cons.injEq, and_true] at j0 j1 j3 j4 j5 j6
        subst j0 j1 j2 j3 j4 j5 j6
        exact ⟨⟨b0, n1, bs, n3, n4, n5, BitVec.ofInt 32 n6⟩, A', c', by simpa using e0, by simpa using e1, by simpa using e2, by simpa using e3, by simpa using e4, by simpa using e5, by dsimp only; rw [nb_ofInt f6]; simpa using e6, hbs⟩
    obtain ⟨q, hq⟩ := choose_lt each
    refine ⟨(List.range len).map q, some a', cap, by simp, by simpa using hl, hm, fun h0 => ?_⟩
    simp only [List.length_map, List.length_range] at h0
    have hsp : a'.spot = none := by
      obtain ⟨_, _, h1, _⟩ := hq 0 h0
      exact plain_of_cell h1
    obtain ⟨b, off, sp⟩ := a'
    simp only at hsp
    subst hsp
    refine ⟨b, off, rfl, fun j hj => ?_⟩
    simp only [List.length_map, List.length_range] at hj
    obtain ⟨A', c', h0, h1, h2, h3, h4, h5, h6, h7⟩ := hq j hj
    have hg : acAt ((List.range len).map q) j = q j := by simp [acAt, List.getD_eq_getElem?_getD, hj]
    rw [hg]
    rw [add_off] at h0 h1 h2 h3 h4 h5 h6
    exact ⟨A', c', h0, h1, h2, h3, h4, h5, h6, h7⟩
end Go.Proofs.Ytnhmhnejglpijaa
