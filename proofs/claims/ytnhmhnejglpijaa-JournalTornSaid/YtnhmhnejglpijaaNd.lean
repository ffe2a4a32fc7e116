/- net: what holds of all parcels; which nets may be: walks. -/
import Derived.Test.YtnhmhnejglpijaaNc
namespace Go.Proofs.Ytnhmhnejglpijaa
open Go.RowKit
set_option maxRecDepth 100000
set_option linter.unusedSimpArgs false
set_option linter.unusedVariables false
theorem idxP_any (p : Pc → Bool) (ps : List Pc) : decide (idxP p ps ≥ 0) = ps.any p := by
  unfold idxP
  cases h : ps.findIdx? p with
  | none =>
    rw [List.findIdx?_eq_none_iff] at h
    simp only
    rw [eq_comm, decide_eq_false (by decide), List.any_eq_false]
    intro x hx
    simp [h x hx]
  | some k =>
    rw [List.findIdx?_eq_some_iff_getElem] at h
    obtain ⟨hk, hp, _⟩ := h
    simp only
    rw [decide_eq_true (by omega), eq_comm, List.any_eq_true]
    exact ⟨_, List.getElem_mem hk, hp⟩
theorem contains_calls (g : Nat) (lb : Array Value) (p : Pc → Bool) (v : Value) (ps : List Pc) (w : World) (eg : ∀ args w, (callFunc g args).run Try.prog w = .ok (.enter g args) w) (hp : PredG g lb p w) (hv : Pcs w v ps) :
    Calls Try.prog 100 #[v, .func (.func g) #[] lb] w fun e w' => e = .returned (.bool (ps.any p)) ∧ Below w.heap.size w w' := by
  have HP := Lib.hid hp
  have HV := Lib.hid hv
  have EG := Lib.hid eg
  clear hp hv eg
  have HI := Lib.hid (idxP_any p ps)
  go_enter Try.func100, Try.ntmps100
  go_wp2_with (go_at_call 18; (with_reducible refine (index_calls g lb p v ps _ EG.out HP.out HV.out).mono ?_); rintro e w' ⟨rfl, hb⟩)
  go_ret
  exact ⟨ret_bool HI.out, hb⟩
theorem not_calls (g : Nat) (lb : Array Value) (p : Pc → Bool) (w : World) (B0 : Nat) (eg : ∀ args w, (callFunc g args).run Try.prog w = .ok (.enter g args) w) (hp : PredG g lb p w)
    (hB : w.heap[B0]? = some (.cells #[.func (.func g) #[] lb] 41 (0, 0))) : PredG 101 #[.pointer (some ⟨B0, 0, none⟩)] (fun x => !p x) w := by
  intro W x A c hb hby
  show Calls Try.prog 101 #[.agg #[.int .i64 x.site, .slice A x.bytes.length c, .bool x.sp], .pointer (some ⟨B0, 0, none⟩)] W _
  have hB2 : (W.alloc (.cells #[.int .i64 x.site, .slice A x.bytes.length c, .bool x.sp] 36)).cell? ⟨B0, 0, none⟩ = some (.func (.func g) #[] lb) :=
    cell_of_heap (((below_al hb _).block _ (lt_of_heap hB)).trans hB)
  have hcall := hp (W.alloc (.cells #[.int .i64 x.site, .slice A x.bytes.length c, .bool x.sp] 36)) x A c (below_al hb _) (hby.below (below_al (Below.refl _ W) _))
  generalize hq : p x = q at hcall
  have HQ := Lib.hid hq
  have HBW := Lib.hid hb
  clear hb hby hp hB hq
  go_enter Try.func101, Try.ntmps101
  go_wp2_with (go_at_fn g; refine hcall.mono ?_; rintro e w' ⟨rfl, hb'⟩)
  go_ret
  exact ⟨ret_bool (by rw [HQ.out]), below_tr (below_al (Below.refl _ W) _) hb'⟩
theorem all_not (p : Pc → Bool) (ps : List Pc) : (!ps.any fun x => !p x) = ps.all p := by
  induction ps with
  | nil => rfl
  | cons a l ih =>
    rw [List.any_cons, List.all_cons, ← ih]
    cases p a <;> simp
theorem all_calls (g : Nat) (lb : Array Value) (p : Pc → Bool) (v : Value) (ps : List Pc) (w : World) (eg : ∀ args w, (callFunc g args).run Try.prog w = .ok (.enter g args) w) (hp : PredG g lb p w) (hv : Pcs w v ps) :
    Calls Try.prog 63 #[v, .func (.func g) #[] lb] w fun e w' => e = .returned (.bool (ps.all p)) ∧ Below w.heap.size w w' := by
  have hmf : ∀ (fn : Fn) (first cap : Array Value) (w : World), (Instr.makeFunc fn first cap).run Try.prog w = .ok (.func fn first cap) w := fun _ _ _ _ => rfl
  have e101 : ∀ args w, (callFunc 101 args).run Try.prog w = .ok (.enter 101 args) w := fun args w => enters_of Try.func101 (by kernel_rfl) rfl args w
  have HW : Hid (∀ W, W = w.alloc (.cells #[.func (.func g) #[] lb] 41) → PredG 101 #[.pointer (some ⟨w.heap.size, 0, none⟩)] (fun x => !p x) W) := Lib.hid (by
    rintro W rfl
    exact not_calls g lb p _ _ eg (fun W x A c hb hby => hp W x A c (below_tr (below_al (Below.refl _ w) _) hb) hby) (new_here w _))
  have HV : Hid (Pcs (w.alloc (.cells #[.func (.func g) #[] lb] 41)) v ps) := Lib.hid (hv.below (below_al (Below.refl _ w) _))
  have E101 := Lib.hid e101
  have HN := Lib.hid (all_not p ps)
  clear hp hv eg e101
  go_enter Try.func63, Try.ntmps63
  go_wp2_with (go_at_call 100; (with_reducible refine (contains_calls 101 _ (fun x => !p x) v ps _ E101.out (HW.out _ rfl) HV.out).mono ?_); rintro e w' ⟨rfl, hb⟩)
  go_ret
  exact ⟨ret_bool HN.out, below_tr (below_al (Below.refl _ w) _) hb⟩
def mayP (p : Pc) : Bool := mayV p.site p.bytes.length
def rightB (ps : List Pc) (lost : Int) : Bool := decide (ps.length ≤ 64) && decide (lost ≤ 4611686018427387904) && ps.all mayP
theorem pred_may (w : World) : PredG 65 #[] mayP w := fun W x A c _ _ => may_calls x.site A x.bytes.length c x.sp W
theorem e65 (args : Array Value) (w : World) : (callFunc 65 args).run Try.prog w = .ok (.enter 65 args) w := enters_of Try.func65 (by kernel_rfl) rfl args w
theorem check_calls (vp : Value) (ps : List Pc) (lost : Int) (w : World) (r : Bool) (hr : rightB ps lost = r) (hv : Pcs w vp ps) :
    Calls Try.prog 31 #[.agg #[vp, .int .u64 lost]] w fun e w' => e = .returned (.int .i64 (if r then 0 else 350)) ∧ Below w.heap.size w w' := by
  obtain ⟨A, cap, rfl, hl⟩ := hv.len
  have HB : Hid (Below w.heap.size w (w.alloc (.cells #[.slice A ps.length cap, .int .u64 lost] 27))) := Lib.hid (below_al (Below.refl _ w) _)
  have HV := Lib.hid (hv.below HB.out)
  clear hv
  by_cases h1 : ps.length ≤ 64
  · have d1 : decide ((ps.length : Int) > 64) = false := decide_eq_false (by omega)
    by_cases h2 : lost ≤ 4611686018427387904
    · have d2 : decide (lost > 4611686018427387904) = false := decide_eq_false (by omega)
      have d3 : ps.all mayP = r := by rw [← hr, rightB, decide_eq_true h1, decide_eq_true h2]; simp
      have D3 := Lib.hid d3
      clear d3 hr
      cases r
      all_goals
        go_enter Try.func31, Try.ntmps31
        go_wp2_with (go_at_call 63; (with_reducible refine (all_calls 65 #[] mayP _ ps _ e65 (pred_may _) HV.out).mono ?_); rintro e w' ⟨rfl, hb⟩; rw [D3.out])
        go_ret
        exact ⟨rfl, below_tr HB.out hb⟩
    · have d2 : decide (lost > 4611686018427387904) = true := decide_eq_true (by omega)
      obtain rfl : r = false := by rw [← hr, rightB, decide_eq_false h2]; simp
      clear hr
      go_enter Try.func31, Try.ntmps31
      go_wp2
      go_ret
      exact ⟨rfl, HB.out⟩
  · have d1 : decide ((ps.length : Int) > 64) = true := decide_eq_true (by omega)
    obtain rfl : r = false := by rw [← hr, rightB, decide_eq_false h1]; simp
    clear hr
    go_enter Try.func31, Try.ntmps31
    go_wp2
    go_ret
    exact ⟨rfl, HB.out⟩
end Go.Proofs.Ytnhmhnejglpijaa
