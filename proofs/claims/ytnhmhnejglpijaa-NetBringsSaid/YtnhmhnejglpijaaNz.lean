/- law25: NetOrders: the closure and the plain law. -/
import Derived.Test.YtnhmhnejglpijaaNy
namespace Go.Proofs.Ytnhmhnejglpijaa
open Go.RowKit
set_option maxRecDepth 100000
set_option linter.unusedSimpArgs false
set_option linter.unusedVariables false
theorem e19 (args : Array Value) (w : World) : (callFunc 19 args).run Try.prog w = .ok (.enter 19 args) w := enters_of Try.func19 (by kernel_rfl) rfl args w
theorem pred_site (b : Nat) (site : Int) (w : World) (h : w.heap[b]? = some (.cells #[.int .i64 site] 3 (0, 0))) : PredG 19 #[.pointer (some ⟨b, 0, none⟩)] (fun p => p.site == site) w := by
  intro W x A c hb hy
  have hs := (hb.block _ (lt_of_heap h)).trans h
  have h1 := below_al (Below.refl W.heap.size W) (.cells #[.int .i64 x.site, .slice A x.bytes.length c, .bool x.sp] 36)
  have c1 : (W.alloc (.cells #[.int .i64 x.site, .slice A x.bytes.length c, .bool x.sp] 36)).cell? ⟨b, 0, none⟩ = some (.int .i64 site) := cell_of_heap (new_next W _ hs)
  clear hs hy hb h
  go_enter Try.func19, Try.ntmps19
  go_wp2
  go_ret
  exact ⟨rfl, h1⟩
end Go.Proofs.Ytnhmhnejglpijaa
