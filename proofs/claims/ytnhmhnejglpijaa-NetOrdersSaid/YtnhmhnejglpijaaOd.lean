/- law25: NetOrders: true whatever the input. -/
import Derived.Test.YtnhmhnejglpijaaOc
namespace Go.Proofs.Ytnhmhnejglpijaa
open Go.RowKit
theorem netorders_calls (v : Value) (ps : List Pc) (site : Int) (w : World) (hv : Pcs w v ps) :
    Calls Try.prog 3 #[v, .int .i64 site] w fun e w' => e = .returned (.bool true) ∧ Below w.heap.size w w' := by
  have hv' := hv
  obtain ⟨A, c, rfl, h1, h2, _⟩ := hv'
  unfold maxLen at h2
  by_cases hq : (fewP (ps.take (min ps.length 70)) (min (ps.take (min ps.length 70)).length 66)).all sendable = true
  · exact orders_yes A c _ ps site w hv h1 (by omega) rfl hq
  · exact orders_no A c _ ps site w hv h1 (by omega) rfl (by simpa using hq)
end Go.Proofs.Ytnhmhnejglpijaa
