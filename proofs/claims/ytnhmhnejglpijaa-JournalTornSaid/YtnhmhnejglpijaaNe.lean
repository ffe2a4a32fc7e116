/- net: a net that changes, in memory: words and laws. -/
import Derived.Test.YtnhmhnejglpijaaNd
import Derived.Deep.AppendLies
import Derived.Deep.RegionLaw
namespace Go.Proofs.Ytnhmhnejglpijaa
open Go.RowKit
set_option maxRecDepth 100000
set_option linter.unusedSimpArgs false
set_option linter.unusedVariables false
theorem OwnPs.shape {w : World} {B : Nat} {v : Value} {ps : List Pc} (h : OwnPs w B v ps) : ∃ A c, v = .slice A ps.length c ∧ ps.length ≤ c ∧ c ≤ 9223372036854775807 ∧ (0 < ps.length → ∃ g, A = some ⟨g, 0, none⟩ ∧ B ≤ g ∧ g < w.heap.size) := by
  obtain ⟨qs, rfl, ho, hq⟩ := h
  rcases ho.2 with ⟨rfl, hn⟩ | ⟨g, cap, cur, rfl, hb, hgg, hnc, hcm, hsz, ht⟩
  · exact ⟨none, 0, by simp [hn], by simp [hn], by omega, fun h => by simp [hn] at h⟩
  · unfold maxLen at hcm
    exact ⟨_, cap, by rw [List.length_map], by rw [List.length_map]; exact hnc, by omega, fun _ => ⟨g, rfl, hb, lt_of_heap hgg⟩⟩
theorem OwnPs.lt {w : World} {B : Nat} {v : Value} {ps : List Pc} (h : OwnPs w B v ps) : ∀ k, v.ownBlock = some k → B ≤ k ∧ k < w.heap.size := by
  obtain ⟨qs, rfl, ho, hq⟩ := h
  exact World.ownsRow.lt ho
theorem OwnPs.noBytes {w : World} {B : Nat} {v : Value} {ps : List Pc} (h : OwnPs w B v ps) : NoBytes w v.ownBlock := by
  obtain ⟨qs, rfl, ho, hq⟩ := h
  intro b hb
  obtain ⟨cur, hc⟩ := row_type ho b hb
  exact ⟨cur, 36, (0, 0), by decide, hc⟩
theorem step_appP {w : World} {ops : Array Oper} {o : Oper} {a : Act} {K : Act → World → Prop} {Q : Exit → Act → World → Prop} {E : Prop} (hgd : o.guard = none) (s x : Operand)
    (ho : o.op = .call { callee := .builtin .append, args := #[s, x], argTypes := #[22, 22] }) (B : Nat) (v : Value) (ps : List Pc) (hs : a.eval s = v) (hown : OwnPs w B v ps)
    (ad : Nat) (p : Pc) (bv : Value) (T : TypeId) (fr : Nat × Nat) (hx : a.eval x = .slice (some ⟨ad, 0, none⟩) 1 1) (hc : w.heap[ad]? = some (.cells #[.int .i64 p.site, bv, .bool p.sp] T fr)) (hbv : Own8 w B bv p.bytes)
    (hlen : ps.length ≤ 1000000) (hbase : B ≤ w.heap.size) (H : Nat) (hH : w.heap.size = H)
    (h : ∀ g cap w', OwnPs w' B (.slice (some ⟨g, 0, none⟩) (ps.length + 1) cap) (ps ++ [p]) → w.grownBy w' v.ownBlock → NoBytes w v.ownBlock → (v.ownBlock = some g ∨ g = H) → g < w'.heap.size → K (a.put o.dst (.slice (some ⟨g, 0, none⟩) (ps.length + 1) cap)) w') :
    if Region.wanted o (yielded ops a.tmps) = true then Oper.wp Try.prog o a w K Q else E := by
  have hnb := hown.noBytes
  obtain ⟨qs, rfl, hrow, hq⟩ := hown
  rw [List.length_map] at h hlen
  obtain ⟨i0, hi, hz0, hz1, hz2⟩ := info_parts Try.info36
  refine step_append_lies (P := Try.prog) w hgd s x 22 ho B 36 i0 _ 3 40 Try.underlying22 hi hz0 hz1 hz2 rfl (by decide) v qs.length (qcells qs) hs hrow ⟨ad, 0, none⟩ 1 1 [.int .i64 p.site, bv, .bool p.sp] hx rfl ?_ ?_ (by decide) (by unfold maxLen; omega) (by omega) hbase H hH ?_
  · intro j u hu
    exact World.news_of_block hc j u hu
  · intro u hu
    simp only [List.mem_cons, List.not_mem_nil, or_false] at hu
    rcases hu with rfl | rfl | rfl
    · rfl
    · exact own8_one hbv
    · rfl
  · intro g cap w' h1 h2 h3 h4
    refine h g cap w' ⟨qs ++ [(p, bv)], by simp, ?_, fun q hqm => ?_⟩ h2 hnb h3 h4
    · rw [qcells_append, List.length_append]
      exact h1
    · rcases List.mem_append.1 hqm with hqm | hqm
      · exact (hq q hqm).keptN h2 hnb
      · simp only [List.mem_singleton] at hqm
        subst hqm
        exact hbv.keptN h2 hnb
/-- A net that changes: parcels under way, how many were lost, what has arrived; all in blocks from B on. -/
def HandR (B H : Nat) (ps : List Pc) (lost : Int) (told : List Pc) (W : World) : Prop :=
  B ≤ H ∧ ∃ vp vt, W.heap[H]? = some (.cells #[vp, .int .u64 lost, vt] 104 (0, 0)) ∧ OwnPs W B vp ps ∧ OwnPs W B vt told ∧ (∀ b, vp.ownBlock = some b → vt.ownBlock ≠ some b)
theorem HandR.below {B H : Nat} {ps told : List Pc} {lost : Int} {W W' : World} (h : HandR B H ps lost told W) (hb : Below W.heap.size W W') : HandR B H ps lost told W' := by
  obtain ⟨h1, vp, vt, h2, h3, h4, h5⟩ := h
  exact ⟨h1, vp, vt, (hb.block _ (lt_of_heap h2)).trans h2, h3.below hb, h4.below hb, h5⟩
theorem grownBy_set (w : World) (g j : Nat) (v : Value) : w.grownBy (w.setCell ⟨g, j, none⟩ v) (some g) :=
  ⟨rfl, rfl, rfl, by simp [World.setCell], fun k _ hk => Below.heap_setCell _ _ _ _ (fun e => hk (by rw [e]))⟩
theorem noBytes_of {w : World} {H T : Nat} {c : Array Value} {f : Nat × Nat} (h : w.heap[H]? = some (.cells c T f)) (hT : T ≠ 5) : NoBytes w (some H) := by
  intro b e
  cases e
  exact ⟨c, T, f, hT, h⟩
theorem OwnPs.ne_hand {w : World} {B H : Nat} {v : Value} {ps : List Pc} {c : Array Value} {f : Nat × Nat} (h : OwnPs w B v ps) (hH : w.heap[H]? = some (.cells c 104 f)) : v.ownBlock = none ∨ v.ownBlock ≠ some H := by
  cases hv : v.ownBlock with
  | none => exact .inl rfl
  | some k =>
    refine .inr fun e => ?_
    cases e
    obtain ⟨qs, rfl, ho, hq⟩ := h
    obtain ⟨cur, hc⟩ := row_type ho H hv
    rw [hc] at hH
    cases hH
/-- the parcels' slice is stored anew -/
theorem HandR.setPs {B H : Nat} {ps told ps' : List Pc} {lost : Int} {W : World} {vt vp' x : Value} (hBH : B ≤ H) (hh : W.heap[H]? = some (.cells #[x, .int .u64 lost, vt] 104 (0, 0))) (hp : OwnPs W B vp' ps') (ht : OwnPs W B vt told) (hne : ∀ b, vp'.ownBlock = some b → vt.ownBlock ≠ some b) :
    HandR B H ps' lost told (W.setCell ⟨H, 0, none⟩ vp') := by
  refine ⟨hBH, vp', vt, ?_, hp.kept (grownBy_set _ _ _ _) (noBytes_of hh (by decide)) (hp.ne_hand hh), ht.kept (grownBy_set _ _ _ _) (noBytes_of hh (by decide)) (ht.ne_hand hh), hne⟩
  have := heap_setCell_same W H 0 vp' _ _ _ hh
  simpa using this
theorem HandR.setTold {B H : Nat} {ps told told' : List Pc} {lost : Int} {W : World} {vp vt' x : Value} (hBH : B ≤ H) (hh : W.heap[H]? = some (.cells #[vp, .int .u64 lost, x] 104 (0, 0))) (hp : OwnPs W B vp ps) (ht : OwnPs W B vt' told') (hne : ∀ b, vp.ownBlock = some b → vt'.ownBlock ≠ some b) :
    HandR B H ps lost told' (W.setCell ⟨H, 2, none⟩ vt') := by
  refine ⟨hBH, vp, vt', ?_, hp.kept (grownBy_set _ _ _ _) (noBytes_of hh (by decide)) (hp.ne_hand hh), ht.kept (grownBy_set _ _ _ _) (noBytes_of hh (by decide)) (ht.ne_hand hh), hne⟩
  have := heap_setCell_same W H 2 vt' _ _ _ hh
  simpa using this
theorem HandR.setLost {B H : Nat} {ps told : List Pc} {lost lost' : Int} {W : World} (h : HandR B H ps lost told W) : HandR B H ps lost' told (W.setCell ⟨H, 1, none⟩ (.int .u64 lost')) := by
  obtain ⟨hBH, vp, vt, hh, hp, ht, hne⟩ := h
  refine ⟨hBH, vp, vt, ?_, hp.kept (grownBy_set _ _ _ _) (noBytes_of hh (by decide)) (hp.ne_hand hh), ht.kept (grownBy_set _ _ _ _) (noBytes_of hh (by decide)) (ht.ne_hand hh), hne⟩
  have := heap_setCell_same W H 1 (.int .u64 lost') _ _ _ hh
  simpa using this
/-- below B all is as it was, and so is every block that holds neither parcels nor a net that changes -/
structure Fr (B : Nat) (W W' : World) : Prop where
  below : Below B W W'
  keep : ∀ (b : Nat) (c : Array Value) (t : TypeId) (f : Nat × Nat), W.heap[b]? = some (Obj.cells c t f) → t ≠ 36 → t ≠ 104 → W'.heap[b]? = some (Obj.cells c t f)
theorem Fr.of_below {B : Nat} {W W' : World} (hB : B ≤ W.heap.size) (h : Below W.heap.size W W') : Fr B W W' := ⟨h.mono hB, fun b c t f hb _ _ => (h.block b (lt_of_heap hb)).trans hb⟩
theorem Fr.refl (B : Nat) (W : World) : Fr B W W := ⟨Below.refl _ _, fun _ _ _ _ h _ _ => h⟩
theorem Fr.trans {B : Nat} {W W' W'' : World} (h : Fr B W W') (k : Fr B W' W'') : Fr B W W'' := ⟨h.below.trans k.below, fun b c t f hb h1 h2 => k.keep b c t f (h.keep b c t f hb h1 h2) h1 h2⟩
theorem Fr.size {B : Nat} {W W' : World} (h : Fr B W W') : W.heap.size ≤ W'.heap.size := h.below.size
theorem Fr.then_ {B : Nat} {W W' W'' : World} (h : Fr B W W') (hB : B ≤ W.heap.size) (k : Below W'.heap.size W' W'') : Fr B W W'' := h.trans (Fr.of_below (Nat.le_trans hB h.size) k)
theorem Fr.set {B H T : Nat} {c : Array Value} {f : Nat × Nat} {W : World} (hB : B ≤ H) (hh : W.heap[H]? = some (.cells c T f)) (hT : T = 36 ∨ T = 104) (k : Nat) (v : Value) : Fr B W (W.setCell ⟨H, k, none⟩ v) := by
  refine ⟨(Below.refl B W).setCell (p := ⟨H, k, none⟩) hB v, fun b c' t f' hb h1 h2 => ?_⟩
  have hne : b ≠ H := by
    rintro rfl
    rw [hb] at hh
    cases hh
    rcases hT with h | h
    · exact h1 h
    · exact h2 h
  exact ((grownBy_set W H k v).block b (lt_of_heap hb) (fun e => hne (by cases e; rfl))).trans hb
theorem Fr.grown {B : Nat} {W W' : World} {row : Option Nat} (hg : W.grownBy W' row) (hB : B ≤ W.heap.size) (hr : ∀ b, row = some b → B ≤ b ∧ ∃ c f, W.heap[b]? = some (.cells c 36 f)) : Fr B W W' := by
  refine ⟨(Below.refl B W).grown hg hB (fun k e => (hr k e).1), fun b c' t f' hb h1 h2 => ?_⟩
  refine (hg.block b (lt_of_heap hb) (fun e => ?_)).trans hb
  obtain ⟨_, c, f, h⟩ := hr b e.symm
  rw [hb] at h
  cases h
  exact h1 rfl
theorem OwnPs.type {w : World} {B : Nat} {v : Value} {ps : List Pc} (h : OwnPs w B v ps) : ∀ b, v.ownBlock = some b → B ≤ b ∧ ∃ c f, w.heap[b]? = some (.cells c 36 f) := by
  intro b hb
  refine ⟨(h.lt b hb).1, ?_⟩
  obtain ⟨qs, rfl, ho, hq⟩ := h
  obtain ⟨cur, hc⟩ := row_type ho b hb
  exact ⟨cur, (0, 0), hc⟩
theorem check_ok (vp : Value) (ps : List Pc) (lost : Int) (w : World) (hr : rightB ps lost = true) (hv : Pcs w vp ps) :
    Calls Try.prog 31 #[.agg #[vp, .int .u64 lost]] w fun e w' => e = .returned (.int .i64 0) ∧ Below w.heap.size w w' := check_calls vp ps lost w true hr hv
theorem check_no (vp : Value) (ps : List Pc) (lost : Int) (w : World) (hr : rightB ps lost = false) (hv : Pcs w vp ps) :
    Calls Try.prog 31 #[.agg #[vp, .int .u64 lost]] w fun e w' => e = .returned (.int .i64 350) ∧ Below w.heap.size w w' := check_calls vp ps lost w false hr hv
theorem of_no (vp : Value) (ps : List Pc) (lost : Int) (w : World) (hr : rightB ps lost = false) (hv : Pcs w vp ps) :
    Calls Try.prog 61 #[.agg #[vp, .int .u64 lost]] w fun e w' => e = errP 350 ∧ Below w.heap.size w w' := by
  obtain ⟨A, cap, rfl, hl⟩ := hv.len
  have HB : Hid (Below w.heap.size w (w.alloc (.cells #[.slice A ps.length cap, .int .u64 lost] 27))) := Lib.hid (below_al (Below.refl _ w) _)
  have HV := Lib.hid (hv.below HB.out)
  have HR := Lib.hid hr
  clear hv hr
  go_enter Try.func61, Try.ntmps61
  go_wp2_with (first
    | (go_at_call 31; (with_reducible refine (check_no _ ps _ _ HR.out HV.out).mono ?_); rintro e w1 ⟨rfl, hb⟩)
    | (go_at_call 62; (with_reducible refine (need_no _ _).mono ?_); rintro e w2 ⟨rfl, rfl⟩))
  exact ⟨rfl, rfl, below_tr HB.out hb⟩
end Go.Proofs.Ytnhmhnejglpijaa
