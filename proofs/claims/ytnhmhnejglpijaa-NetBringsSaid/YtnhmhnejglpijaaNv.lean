/- net: the iterator over a site's parcels: walks. -/
import Derived.Test.YtnhmhnejglpijaaNu
namespace Go.Proofs.Ytnhmhnejglpijaa
open Go.RowKit Go.Shelf
attribute [local go_sem] Oper.semAt_some
set_option maxRecDepth 100000
set_option linter.unusedSimpArgs false
set_option linter.unusedVariables false
/-- the places, of the first k, of a site's parcels -/
def atSite (ps : List Pc) (site : Int) (k : Nat) : List Nat := (List.range k).filter fun j => decide ((pcAt ps j).site = site)
theorem atSite_hit {ps : List Pc} {site : Int} {k : Nat} (h : (pcAt ps k).site = site) : atSite ps site (k + 1) = atSite ps site k ++ [k] := by
  simp [atSite, List.range_succ, List.filter_append, h]
theorem atSite_miss {ps : List Pc} {site : Int} {k : Nat} (h : (pcAt ps k).site ≠ site) : atSite ps site (k + 1) = atSite ps site k := by
  simp [atSite, List.range_succ, List.filter_append, h]
theorem atSite_length (ps : List Pc) (site : Int) (k : Nat) : (atSite ps site k).length ≤ k := by
  have := List.length_filter_le (fun j => decide ((pcAt ps j).site = site)) (List.range k)
  simpa [atSite] using this
theorem atSite_prefix (ps : List Pc) (site : Int) {k n : Nat} (h : k ≤ n) : atSite ps site k <+: atSite ps site n := by
  induction n with
  | zero => obtain rfl : k = 0 := by omega
            exact List.prefix_refl _
  | succ n ih =>
    by_cases hk : k = n + 1
    · subst hk; exact List.prefix_refl _
    · refine (ih (by omega)).trans ?_
      by_cases hs : (pcAt ps n).site = site
      · rw [atSite_hit hs]; exact List.prefix_append _ _
      · rw [atSite_miss hs]; exact List.prefix_refl _
theorem grown_alloc (W : World) (o : Obj) : W.grownBy (W.alloc o) none := grown_of_below (below_al (Below.refl _ _) _)
/-- what a round keeps: what lay below, and the block Sb -/
def KpS (n₀ Sb : Nat) (W W' : World) : Prop := Below n₀ W W' ∧ ∀ o, W.heap[Sb]? = some o → W'.heap[Sb]? = some o
theorem kpS_t {n₀ Sb : Nat} {A B C : World} (h : KpS n₀ Sb A B) (k : KpS n₀ Sb B C) : KpS n₀ Sb A C := ⟨h.1.trans k.1, fun o ho => k.2 o (h.2 o ho)⟩
theorem kpS_b {n₀ Sb : Nat} {w : World} (hn : n₀ ≤ w.heap.size) (hs : Sb < w.heap.size) (W : World) (l : Nat) (o o' : Obj) (hl : w.heap.size ≤ l) (ho : W.heap[l]? = some o) (h1 : o.isCells = false) (h2 : o.isWalk = false) : KpS n₀ Sb W (W.putObj l o') := by
  refine ⟨belowK_b hn W l o o' hl ho h1 h2, fun x hx => ?_⟩
  exact ((grownBy_putObj' W l o').block Sb (Array.getElem?_eq_some_iff.1 hx).1 (fun e => by cases e; omega)).trans hx
set_option maxHeartbeats 4000000 in
theorem to1_in (n : Nat) (hn : 1 ≤ n) (l Nb Sb n₀ : Nat) (vp : Value) (ps : List Pc) (lost site : Int) (J Jx : List Nat → World → Prop) (w0 : World) (hn0 : w0.heap.size = n₀) (hp : Pcs w0 vp ps) (W : World) (hw0 : Below n₀ w0 W)
    (hJ : AbidesFrom W.heap.size J)
    (hY : ∀ pre x W, J pre W → pre.length < ps.length → YieldAt Fence.wide (n - 1) Try.prog l #[.int .i64 ((x : Nat) : Int)] W fun e W' =>
      (e = .returned (.bool true) ∧ J (pre ++ [x]) W' ∧ KpS n₀ Sb W W') ∨ (e = .returned (.bool false) ∧ Jx (pre ++ [x]) W'))
    (hNb : W.heap[Nb]? = some (.cells #[vp, .int .u64 lost] 27 (0, 0))) (hSb : W.heap[Sb]? = some (.cells #[.int .i64 site] 3 (0, 0))) (h0 : J [] W) :
    CallsIn Fence.wide n Try.prog 103 #[.func (.yield l) #[] #[], .pointer (some ⟨Nb, 0, none⟩), .pointer (some ⟨Sb, 0, none⟩)] W fun e W' => (∃ v, e = .returned v) ∧
      ((∃ ys, ys = atSite ps site ps.length ∧ J ys W') ∨ (∃ pre, pre <+: atSite ps site ps.length ∧ Jx pre W')) := by
  subst hn0
  obtain ⟨A, cap, rfl, hc1, hc2, hrow⟩ := hp
  unfold maxLen at hc2
  have q1 : W.cell? ⟨Nb, 0, none⟩ = some (.slice A ps.length cap) := cell_of_heap hNb
  have HR := Lib.hid hrow
  have HY := Lib.hid hY
  have HJ : Hid (∀ pre X o, J pre X → J pre (X.alloc o)) := Lib.hid fun pre X o h => hJ pre X _ none h (grown_alloc X o) (fun r e => by cases e)
  clear hrow hY hJ hNb
  refine callsIn_of_wp Try.func103 rfl trivial ?_ rfl
  simp only [Try.ntmps103, List.size_toArray, List.length_cons, List.length_nil, Nat.reduceAdd, Nat.reduceSub, Array.replicate_succ, Array.replicate_zero, List.push_toArray, List.append_toArray, List.nil_append, List.cons_append]
  gi_wp2
  gi_loopw [4, 5, 9] (fun _ _ i wr => ∃ k : Nat, k ≤ ps.length ∧ i = .int .i64 k ∧ J (atSite ps site k) wr ∧ Below w0.heap.size w0 wr ∧ wr.heap[Sb]? = some (.cells #[.int .i64 site] 3 (0, 0))) (fun _ _ i _ => ps.length - (intOf i).toNat)
  case atStart => exact ⟨0, Nat.zero_le _, rfl, h0, hw0, hSb⟩
  case round =>
    obtain ⟨k, hk, rfl, hJs, hnx, hsb⟩ := hrel
    by_cases hlt : k < ps.length
    · obtain ⟨b, off, rfl, hc⟩ := HR.out (by omega)
      obtain ⟨A', c', k1, k2, k3, k4⟩ := hc k hlt
      have d1 := (hnx.cell (p := ⟨b, off + k * 3, none⟩) (World.block_lt_of_cell? _ _ k1)).trans k1
      have d2 := (hnx.cell (p := ⟨b, off + k * 3 + 1, none⟩) (World.block_lt_of_cell? _ _ k2)).trans k2
      have d3 := (hnx.cell (p := ⟨b, off + k * 3 + 2, none⟩) (World.block_lt_of_cell? _ _ k3)).trans k3
      have hpl : (atSite ps site k).length < ps.length := by have := atSite_length ps site k; omega
      have hit : Hid ((pcAt ps k).site = site → atSite ps site (k + 1) = atSite ps site k ++ [k]) := Lib.hid atSite_hit
      have hmi : Hid ((pcAt ps k).site ≠ site → atSite ps site (k + 1) = atSite ps site k) := Lib.hid atSite_miss
      clear hc k1 k2 k3 k4
      generalize pcAt ps k = p at *
      have hJ1 : J (atSite ps site k) (wr.alloc (.cells #[.int .i64 p.site, .slice A' p.bytes.length c', .bool p.sp] 36)) := HJ.out _ _ _ hJs
      have hb1 : Below w0.heap.size w0 (wr.alloc (.cells #[.int .i64 p.site, .slice A' p.bytes.length c', .bool p.sp] 36)) := below_al hnx _
      have hsb1 := new_next wr (.cells #[.int .i64 p.site, .slice A' p.bytes.length c', .bool p.sp] 36) hsb
      have x1 : (wr.alloc (.cells #[.int .i64 p.site, .slice A' p.bytes.length c', .bool p.sp] 36)).cell? ⟨Sb, 0, none⟩ = some (.int .i64 site) := cell_of_heap hsb1
      have HSB := Lib.hid hsb1
      have hd : decide (k < ps.length) = true := by simpa using hlt
      have hnot : ∀ (x : Bool) (w : World), (Op.unary .not (.bool x)).run Try.prog w = .ok (.bool (!x)) w := fun _ _ => rfl
      have HB1 := Lib.hid hb1
      have HJ1 := Lib.hid hJ1
      by_cases hs : p.site = site
      · have hit' := Lib.hid (hit.out hs)
        have hds : (p.site == site) = true := by simpa using hs
        obtain ⟨fn, tmps, assign, body, hy, hRd⟩ := HY.out _ k _ hJ1 hpl
        clear hs hit hmi hb1 hJ1 hsb1 hsb
        gi_wp2
        refine hRd.mono ?_
        rintro e W3 (⟨rfl, hJ3, hk3⟩ | ⟨rfl, hJx3⟩)
        · gi_wp2
          go_roundw
          case rel => exact ⟨k + 1, by omega, by go_num, by rw [hit'.out]; exact hJ3, HB1.out.trans hk3.1, hk3.2 _ HSB.out⟩
          case measure => simp [intOf]; omega
        · gi_wp2
          refine bodyPost_ret (results_none rfl _ _ _) rfl ?_
          refine ⟨⟨_, rfl⟩, .inr ⟨_, ?_, hJx3⟩⟩
          rw [← hit'.out]
          exact atSite_prefix ps site (by omega)
      · have hmi' := Lib.hid (hmi.out hs)
        have hds : (p.site == site) = false := by simpa using hs
        clear hs hit hmi hb1 hJ1 hsb1 hsb
        gi_wp2
        refine ⟨fun _ h => (by cases h), ?_⟩
        gi_wp2
        go_roundw
        case rel => exact ⟨k + 1, by omega, by go_num, by rw [hmi'.out]; exact HJ1.out, HB1.out, HSB.out⟩
        case measure => simp [intOf]; omega
    · have hd : decide (k < ps.length) = false := by simpa using hlt
      have hke : k = ps.length := by omega
      subst hke
      gi_wp2
      go_end0
      exact ⟨⟨_, rfl⟩, .inl ⟨_, rfl, hJs⟩⟩
theorem to1_stops (n : Nat) (hn : 1 ≤ n) (Nb Sb n₀ : Nat) (vp : Value) (ps : List Pc) (lost site : Int) (w0 w : World) (hn0 : w0.heap.size = n₀) (hp : Pcs w0 vp ps) (hw : Below n₀ w0 w)
    (hNb : w.heap[Nb]? = some (.cells #[vp, .int .u64 lost] 27 (0, 0))) (hSb : w.heap[Sb]? = some (.cells #[.int .i64 site] 3 (0, 0))) :
    SeqStopsK Fence.wide n Try.prog 103 #[.pointer (some ⟨Nb, 0, none⟩), .pointer (some ⟨Sb, 0, none⟩)] (fun x : Nat => #[Value.int .i64 (x : Int)]) (KpS n₀ Sb) (fun ys => ys = atSite ps site ps.length) (fun pre => pre <+: atSite ps site ps.length) ps.length w := fun l J Jx W hW hJ _ hY h0 => by
  have := hw.size
  exact to1_in n hn l Nb Sb n₀ vp ps lost site J Jx w0 hn0 hp W (hw.trans (hW.mono (by omega))) hJ hY ((hW.block _ (lt_of_heap hNb)).trans hNb) ((hW.block _ (lt_of_heap hSb)).trans hSb) h0
theorem to_in (n : Nat) (v : Value) (lost site : Int) (w : World) :
    CallsIn Fence.wide n Try.prog 68 #[.agg #[v, .int .u64 lost], .int .i64 site] w fun e w' => e = .returned (.func (.func 103) #[] #[.pointer (some ⟨w.heap.size, 0, none⟩), .pointer (some ⟨w.heap.size + 1, 0, none⟩)]) ∧
      w' = (w.alloc (.cells #[v, .int .u64 lost] 27)).alloc (.cells #[.int .i64 site] 3) := by
  have hmf : ∀ (fn : Fn) (first cap : Array Value) (w : World), (Instr.makeFunc fn first cap).run Try.prog w = .ok (.func fn first cap) w := fun _ _ _ _ => rfl
  refine callsIn_of_wp Try.func68 rfl trivial ?_ rfl
  simp only [Try.ntmps68, List.size_toArray, List.length_cons, List.length_nil, Nat.reduceAdd, Nat.reduceSub, Array.replicate_succ, Array.replicate_zero, List.push_toArray, List.append_toArray, List.nil_append, List.cons_append]
  gi_wp2
  go_ret
  exact ⟨rfl, rfl⟩
end Go.Proofs.Ytnhmhnejglpijaa
