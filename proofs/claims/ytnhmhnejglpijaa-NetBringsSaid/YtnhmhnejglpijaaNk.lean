/- net: a parcel twice, and spoilt: walks. -/
import Derived.Test.YtnhmhnejglpijaaNj
namespace Go.Proofs.Ytnhmhnejglpijaa
open Go.RowKit
set_option maxRecDepth 100000
set_option linter.unusedSimpArgs false
set_option linter.unusedVariables false
/-- parcels, and how many are lost, behind one more -/
def sentPs (ps : List Pc) (p : Pc) : List Pc := if ps.length < 64 then ps ++ [p] else ps
def sentLost (ps : List Pc) (lost : Int) : Int := if ps.length < 64 then lost else min (lost + 1) 4611686018427387904
theorem send_calls (B H : Nat) (ps told : List Pc) (lost : Int) (p : Pc) (bv : Value) (W : World) (hR : HandR B H ps lost told W) (hB : B ≤ W.heap.size) (hb : Bys W bv p.bytes) (hl : p.bytes.length ≤ 1099511627776) (h0 : 0 ≤ lost) (h1 : lost ≤ 4611686018427387904) (hn : ps.length ≤ 64) :
    Calls Try.prog 66 #[.pointer (some ⟨H, 0, none⟩), .agg #[.int .i64 p.site, bv, .bool p.sp]] W fun e w' => e = .returned (.tuple #[]) ∧ HandR B H (sentPs ps p) (sentLost ps lost) told w' ∧ Fr B W w' := by
  by_cases h : ps.length < 64
  · rw [sentPs, sentLost, if_pos h, if_pos h]
    exact send_room B H ps told lost p bv W hR hB hb hl h
  · rw [sentPs, sentLost, if_neg h, if_neg h]
    exact send_full B H ps told lost p bv W hR hB hb h0 h1 (by omega)
set_option maxHeartbeats 4000000 in
theorem twice_calls (B H : Nat) (ps told : List Pc) (lost : Int) (kind bit : Int) (m : W32) (k : Nat) (W : World) (hR : HandR B H ps lost told W) (hB : B ≤ W.heap.size) (hk : k < ps.length) (hn : ps.length ≤ 64) (hpl : (pcAt ps k).bytes.length ≤ 8192) (h0 : 0 ≤ lost) (h1 : lost ≤ 4611686018427387904) :
    Calls Try.prog 107 #[.pointer (some ⟨H, 0, none⟩), trickV kind k bit m] W fun e w' => e = .returned (.tuple #[]) ∧ HandR B H (sentPs ps (pcAt ps k)) (sentLost ps lost) told w' ∧ Fr B W w' := by
  obtain ⟨W1, hW1⟩ : ∃ W1, W.alloc (.cells #[.int .i64 kind, .int .i64 k, .int .i64 bit, .int .u32 (nb m)] 48) = W1 := ⟨_, rfl⟩
  have hb1 : Below W.heap.size W W1 := by rw [← hW1]; exact below_al (Below.refl _ _) _
  have hz1 : W1.heap.size = W.heap.size + 1 := by rw [← hW1]; simp
  have hbox : W1.heap[W.heap.size]? = some (.cells #[.int .i64 kind, .int .i64 k, .int .i64 bit, .int .u32 (nb m)] 48 (0, 0)) := by rw [← hW1]; exact new_here W _
  have hR1 := hR.below hb1
  obtain ⟨g, c1, A2, c2, A', c', hEF⟩ := elem_facts hR1 hk
  have HS := Lib.hid (fun (X : World) (hX : Below W1.heap.size W1 X) => send_calls B H ps told lost (pcAt ps k) (.slice A' (pcAt ps k).bytes.length c') X (hR1.below hX) (by have := hX.size; omega) (hEF.below hX).own.bys (by omega) h0 h1 hn)
  have HF := Lib.hid (fun (X : World) (hX : Below W1.heap.size W1 X) => Fr.of_below hB (below_tr hb1 hX))
  have HW1 := Lib.hid hW1
  have i0 : (0 : Int) ≤ (k : Int) := by omega
  have i1 : (k : Int) < (ps.length : Int) := by omega
  have q1 : W1.cell? ⟨W.heap.size, 1, none⟩ = some (.int .i64 k) := cell_of_heap hbox
  obtain ⟨r0, r2, rf, rx0, rx1, rx2, _, _, _, _, _⟩ := hEF
  clear hz1 hW1 hbox hb1 hR hR1 h0 h1 hpl
  go_enter Try.func107, Try.ntmps107
  go_wp2
  rw [HW1.out]
  go_region_law (first
    | (go_simp; go_at_call 66; (with_reducible refine (HS.out _ ?_).mono ?_); (repeat (first | exact Below.refl _ _ | apply below_dr | apply below_al)); rintro e w6 ⟨rfl, hr, hf⟩))
  all_goals
    have hff := (HF.out _ (by repeat (first | exact Below.refl _ _ | apply below_dr | apply below_al))).trans hf
    go_wp2
    go_end0
    exact ⟨rfl, hr, hff⟩
end Go.Proofs.Ytnhmhnejglpijaa
