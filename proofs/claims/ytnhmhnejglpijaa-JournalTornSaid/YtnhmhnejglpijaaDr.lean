/- A law's arguments, as they come in. -/
import Derived.Test.YtnhmhnejglpijaaCh
namespace Go.Proofs.Ytnhmhnejglpijaa
open Go.RowKit
set_option linter.unusedSimpArgs false
/-- What a walk is told of a slice of integers that came in: it is nil, or it leads to a row of cells. -/
def IsRow (k : IntKind) (w : World) (a : Option Addr) (len cap : Nat) (zs : List Int) : Prop :=
  (a = none ∧ len = 0 ∧ cap = 0 ∧ zs = []) ∨
  ∃ x, a = some x ∧ len ≤ cap ∧ cap ≤ maxLen ∧ zs.length = cap ∧ (∀ i, i < zs.length → w.cell? (x.add i) = some (.int k (zs.getD i 0))) ∧ ∀ n ∈ zs, (Lit.int k n).wf = true
theorem plain_of_cell {w : World} {x : Addr} {v : Value} (h : w.cell? x = some v) : x.spot = none := by
  unfold World.cell? at h
  split at h
  · split at h
    · cases h
    · rename_i hs
      simpa using hs
  · cases h
theorem bn_ofInt {n : Int} (h : (Lit.int .u8 n).wf = true) : bn (BitVec.ofInt 8 n) = n := by
  simp [Lit.wf, IntKind.min, IntKind.max, IntKind.bits, IntKind.signed] at h
  unfold bn
  rw [BitVec.toNat_ofInt]
  omega
theorem nb_ofInt {n : Int} (h : (Lit.int .u32 n).wf = true) : nb (BitVec.ofInt 32 n) = n := by
  simp [Lit.wf, IntKind.min, IntKind.max, IntKind.bits, IntKind.signed] at h
  unfold nb
  rw [BitVec.toNat_ofInt]
  omega
theorem isrow_bys {w : World} {a : Option Addr} {len cap : Nat} {zs : List Int} (h : IsRow .u8 w a len cap zs) : ∃ bs : List B8, bs.length = len ∧ Bys w (.slice a len cap) bs := by
  rcases h with ⟨rfl, rfl, rfl, rfl⟩ | ⟨x, rfl, hl, hm, hz, hc, hw⟩
  · exact ⟨[], rfl, none, 0, rfl, Nat.le_refl _, by simp [maxLen], fun _ => rfl, fun h => by simp at h⟩
  · have hlen : ((zs.take len).map (BitVec.ofInt 8)).length = len := by
      rw [List.length_map, List.length_take]
      omega
    refine ⟨(zs.take len).map (BitVec.ofInt 8), hlen, some x, cap, by rw [hlen], by rw [hlen]; exact hl, hm, (fun h => by cases h), fun h0 => ?_⟩
    rw [hlen] at h0
    have hp := plain_of_cell (hc 0 (by omega))
    obtain ⟨b, off, sp⟩ := x
    simp [Addr.add] at hp
    subst hp
    refine ⟨b, off, rfl, fun j hj => ?_⟩
    rw [hlen] at hj
    have hj2 := hc j (by omega)
    have hadd : (⟨b, off, none⟩ : Addr).add j = ⟨b, off + j, none⟩ := by unfold Addr.add; split <;> simp_all
    rw [hadd] at hj2
    rw [hj2]
    have hget : byteAt ((zs.take len).map (BitVec.ofInt 8)) j = BitVec.ofInt 8 (zs.getD j 0) := by
      unfold byteAt
      rw [List.getD_eq_getElem?_getD, List.getD_eq_getElem?_getD, List.getElem?_map, List.getElem?_take, if_pos hj]
      rw [List.getElem?_eq_getElem (by omega)]
      rfl
    rw [hget, bn_ofInt]
    apply hw
    rw [List.getD_eq_getElem?_getD, List.getElem?_eq_getElem (by omega)]
    exact List.getElem_mem _
end Go.Proofs.Ytnhmhnejglpijaa
