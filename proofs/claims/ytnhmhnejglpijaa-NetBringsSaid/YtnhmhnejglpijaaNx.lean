/- law25: few: the walk. -/
import Derived.Test.YtnhmhnejglpijaaNw
namespace Go.Proofs.Ytnhmhnejglpijaa
open Go.RowKit
set_option maxRecDepth 100000
set_option linter.unusedSimpArgs false
set_option linter.unusedVariables false
theorem wpList_appP {w : World} {ops : Array Oper} {rest : List Oper} {o : Oper} {a : Act} {Q : Exit → Act → World → Prop} (hgd : o.guard = none) (s x : Operand)
    (ho : o.op = .call { callee := .builtin .append, args := #[s, x], argTypes := #[22, 22] }) (B : Nat) (v : Value) (ps : List Pc) (hs : a.eval s = v) (hown : OwnPs w B v ps)
    (ad : Nat) (p : Pc) (bv : Value) (T : TypeId) (fr : Nat × Nat) (hx : a.eval x = .slice (some ⟨ad, 0, none⟩) 1 1) (hc : w.heap[ad]? = some (.cells #[.int .i64 p.site, bv, .bool p.sp] T fr)) (hbv : Own8 w B bv p.bytes)
    (hlen : ps.length ≤ 1000000) (hbase : B ≤ w.heap.size)
    (h : ∀ g cap w', OwnPs w' B (.slice (some ⟨g, 0, none⟩) (ps.length + 1) cap) (ps ++ [p]) → w.grownBy w' v.ownBlock → g < w'.heap.size → wpList Try.prog ops Q rest (a.put o.dst (.slice (some ⟨g, 0, none⟩) (ps.length + 1) cap)) w') :
    wpList Try.prog ops Q (o :: rest) a w := by
  have hnb := hown.noBytes
  obtain ⟨qs, rfl, hrow, hq⟩ := hown
  rw [List.length_map] at h hlen
  obtain ⟨i0, hi, hz0, hz1, hz2⟩ := info_parts Try.info36
  refine wpList_append_lies (P := Try.prog) w hgd s x 22 ho B 36 i0 _ 3 40 Try.underlying22 hi hz0 hz1 hz2 rfl (by decide) v qs.length (qcells qs) hs hrow ⟨ad, 0, none⟩ 1 1 [.int .i64 p.site, bv, .bool p.sp] hx rfl ?_ ?_ (by decide) (by unfold maxLen; omega) (by omega) hbase w.heap.size rfl ?_
  · intro j u hu
    exact World.news_of_block hc j u hu
  · intro u hu
    simp only [List.mem_cons, List.not_mem_nil, or_false] at hu
    rcases hu with rfl | rfl | rfl
    · rfl
    · exact own8_one hbv
    · rfl
  · intro g cap w' h1 h2 h3 h4
    refine h g cap w' ⟨qs ++ [(p, bv)], by simp, ?_, fun q hqm => ?_⟩ h2 h4
    · rw [qcells_append, List.length_append]
      exact h1
    · rcases List.mem_append.1 hqm with hqm | hqm
      · exact (hq q hqm).keptN h2 hnb
      · simp only [List.mem_singleton] at hqm
        subst hqm
        exact hbv.keptN h2 hnb
/-- a parcel, cut to 8193 bytes -/
def cutP (p : Pc) : Pc := ⟨p.site, p.bytes.take 8193, p.sp⟩
def fewP (ps : List Pc) (k : Nat) : List Pc := (ps.take k).map cutP
theorem fewP_succ (ps : List Pc) (k : Nat) (hk : k < ps.length) : fewP ps (k + 1) = fewP ps k ++ [cutP (pcAt ps k)] := by
  rw [fewP, ← take_pc ps k hk, List.map_append]; rfl
theorem fewP_length (ps : List Pc) (k : Nat) (hk : k ≤ ps.length) : (fewP ps k).length = k := by simp [fewP]; omega
theorem few_mid {w wr w3 : World} {X : Obj} {A1 : Option Addr} {c1 : Nat} {l : List Pc} {v3 : Value} {bs : List B8} {c : Array Value} (hO : OwnPs wr w.heap.size (.slice A1 l.length c1) l) (hB : Below w.heap.size w wr)
    (hb3 : Below (wr.alloc X).heap.size (wr.alloc X) w3) (hbx3 : w3.heap[wr.heap.size]? = some (.cells c 36 (0, 0))) (ho3 : Own8 w3 (wr.alloc X).heap.size v3 bs) :
    OwnPs (w3.setCell ⟨wr.heap.size, 1, none⟩ v3) w.heap.size (.slice A1 l.length c1) l ∧ Own8 (w3.setCell ⟨wr.heap.size, 1, none⟩ v3) w.heap.size v3 bs ∧ Below w.heap.size w (w3.setCell ⟨wr.heap.size, 1, none⟩ v3) := by
  have hs := hB.size
  refine ⟨((hO.below (below_al (Below.refl _ _) X)).below hb3).kept (grownBy_set w3 wr.heap.size 1 v3) (noBytes_of hbx3 (by decide)) ?_, (ho3.keptN (grownBy_set w3 wr.heap.size 1 v3) (noBytes_of hbx3 (by decide))).base (by rw [World.size_alloc]; omega), (below_tr (below_al hB X) hb3).setCell (p := ⟨wr.heap.size, 1, none⟩) hs _⟩
  cases h : (Value.slice A1 l.length c1).ownBlock with
  | none => exact .inl rfl
  | some j =>
    refine .inr fun e => ?_
    cases e
    have := (hO.lt _ h).2
    omega
set_option maxHeartbeats 4000000 in
theorem few_calls (v : Value) (ps : List Pc) (w : World) (hv : Pcs w v ps) :
    Calls Try.prog 12 #[v] w fun e w' => ∃ v', e = .returned v' ∧ OwnPs w' w.heap.size v' (fewP ps (min ps.length 66)) ∧ Below w.heap.size w w' := by
  obtain ⟨A, cap, rfl, h1, h2, h3⟩ := hv
  unfold maxLen at h2
  have HC := Lib.hid h3
  clear h3
  obtain ⟨m, hm⟩ : ∃ m, min ps.length 66 = m := ⟨_, rfl⟩
  have hm1 : min (ps.length : Int) 66 = (m : Int) := by omega
  have hm2 : m ≤ ps.length := by omega
  have hm3 : m ≤ 66 := by omega
  have hm4 : (m : Int) ≤ (cap : Int) := by omega
  have hm5 : (0 : Int) ≤ (m : Int) := by omega
  rw [hm]
  clear hm
  go_enter Try.func12, Try.ntmps12
  go_wp2
  go_loopw [3, 5, 12] (fun s3 _ s12 wr => ∃ (k : Nat) (A1 : Option Addr) (c1 : Nat), k ≤ m ∧ s12 = .int .i64 k ∧ s3 = .slice A1 (fewP ps k).length c1 ∧ Hid (OwnPs wr w.heap.size (.slice A1 (fewP ps k).length c1) (fewP ps k) ∧ Below w.heap.size w wr)) (fun _ _ i _ => m - (intOf i).toNat)
  case atStart => exact ⟨0, none, 0, Nat.zero_le _, rfl, rfl, Lib.hid ⟨OwnPs.nil _ _, Below.refl _ w⟩⟩
  case round =>
    obtain ⟨k, A1, c1, hk, rfl, rfl, hrel⟩ := hrel
    by_cases hlt : k < m
    · have hd : decide (k < m) = true := by simpa using hlt
      obtain ⟨b, off, rfl, hc⟩ := HC.out (by omega)
      obtain ⟨A', c', k1, k2, k3, k4⟩ := hc k (by omega)
      have hnx := hrel.out.2
      have d1 := (hnx.cell (p := ⟨b, off + k * 3, none⟩) (World.block_lt_of_cell? _ _ k1)).trans k1
      have d2 := (hnx.cell (p := ⟨b, off + k * 3 + 1, none⟩) (World.block_lt_of_cell? _ _ k2)).trans k2
      have d3 := (hnx.cell (p := ⟨b, off + k * 3 + 2, none⟩) (World.block_lt_of_cell? _ _ k3)).trans k3
      have i0 : (0 : Int) ≤ (k : Int) := by omega
      have i1 : (k : Int) < (m : Int) := by omega
      have hsu := Lib.hid (fewP_succ ps k (by omega))
      have hfl := Lib.hid (fewP_length ps k (by omega))
      have hby := k4.below hnx
      clear hc k1 k2 k3 k4
      generalize pcAt ps k = p at *
      obtain ⟨l, hl⟩ : ∃ l, min p.bytes.length 8193 = l := ⟨_, rfl⟩
      have hl1 : min (p.bytes.length : Int) 8193 = (l : Int) := by omega
      have hl2 : l ≤ p.bytes.length := by omega
      have hl3 : l ≤ 8193 := by omega
      have hbt := hby.take l hl2
      have htk : p.bytes.take l = (cutP p).bytes := by
        show _ = p.bytes.take 8193
        rw [← hl]
        by_cases h : p.bytes.length ≤ 8193
        · rw [Nat.min_eq_left h, List.take_of_length_le (Nat.le_refl _), List.take_of_length_le h]
        · rw [Nat.min_eq_right (by omega)]
      rw [htk] at hbt
      have hc8 : p.bytes.length ≤ c' ∧ c' ≤ 9223372036854775807 := by
        obtain ⟨A9, c9, e9, h91, h92, _⟩ := hby
        cases e9
        unfold maxLen at h92
        exact ⟨h91, by omega⟩
      have hl4 : (l : Int) ≤ (c' : Int) := by omega
      have hl5 : (0 : Int) ≤ (l : Int) := by omega
      have hcl : (cutP p).bytes.length ≤ 140737488355328 := by rw [← htk, List.length_take]; omega
      have HBT := Lib.hid hbt
      have HCL := Lib.hid hcl
      have hbx := new_here wr (.cells #[.int .i64 p.site, .slice A' p.bytes.length c', .bool p.sp] 36)
      have HBX := Lib.hid hbx
      clear hl htk hbt hby hcl hbx hnx
      go_wp2_with (first
        | (go_at_call 37; (with_reducible refine (clone_calls _ (cutP p).bytes _ (HBT.out.below (below_al (Below.refl _ _) _)) HCL.out).mono ?_); rintro e w3 ⟨v3, rfl, ho3, hb3⟩; (obtain ⟨A3, c3, rfl⟩ := own8_shape ho3); (have hbx3 := (hb3.block _ (lt_of_heap HBX.out)).trans HBX.out); (have y0 : w3.cell? ⟨wr.heap.size, 0, none⟩ = some (.int .i64 p.site) := cell_of_heap hbx3); (have y1 : w3.cell? ⟨wr.heap.size, 1, none⟩ = some (.slice A' p.bytes.length c') := cell_of_heap hbx3); (have y2 : w3.cell? ⟨wr.heap.size, 2, none⟩ = some (.bool p.sp) := cell_of_heap hbx3); (have yf : w3.frozen? ⟨wr.heap.size, 1, none⟩ = false := free_of_heap hbx3); (have HM := Lib.hid (few_mid hrel.out.1 hrel.out.2 hb3 hbx3 ho3)); (have hn9 : ((w3.setCell ⟨wr.heap.size, 1, none⟩ (.slice A3 (cutP p).bytes.length c3)).alloc (.cells #[.int .i64 p.site, .slice A3 (cutP p).bytes.length c3, .bool p.sp] 36)).heap[w3.heap.size]? = some (.cells #[.int .i64 p.site, .slice A3 (cutP p).bytes.length c3, .bool p.sp] 36 (0, 0)) := by have := new_here (w3.setCell ⟨wr.heap.size, 1, none⟩ (.slice A3 (cutP p).bytes.length c3)) (.cells #[.int .i64 p.site, .slice A3 (cutP p).bytes.length c3, .bool p.sp] 36); rwa [show (w3.setCell ⟨wr.heap.size, 1, none⟩ (.slice A3 (cutP p).bytes.length c3)).heap.size = w3.heap.size from by simp] at this); (have HN9 := Lib.hid hn9); (clear ho3 hb3 hbx3 hn9))
        | (at_builtin; go_loud (refine wpList_appP rfl (.tmp 25) (.tmp 27) rfl w.heap.size _ (fewP ps k) rfl (HM.out.1.below (below_al (Below.refl _ _) _)) _ (cutP p) (.slice A3 (cutP p).bytes.length c3) 36 (0, 0) rfl HN9.out (HM.out.2.1.alloc _) (by rw [hfl.out]; omega) (below_al HM.out.2.2 _).size ?_; intro g cap w6 h6 hg6 hlt6)))
      have hE : OwnPs w6 w.heap.size (.slice (some ⟨g, 0, none⟩) (fewP ps (k + 1)).length cap) (fewP ps (k + 1)) ∧ Below w.heap.size w w6 := by
        rw [hsu.out, List.length_append]
        exact ⟨h6, (below_al HM.out.2.2 _).grown hg6 (below_al HM.out.2.2 _).size (fun b e => (HM.out.1.lt _ e).1)⟩
      have hln : (fewP ps k).length + 1 = (fewP ps (k + 1)).length := by rw [hsu.out, List.length_append]; rfl
      have HE := Lib.hid hE
      clear hE h6 hg6
      go_wp2
      go_roundw
      case rel => exact ⟨k + 1, some ⟨g, 0, none⟩, cap, by omega, by go_num, by rw [hln], HE⟩
      case measure => simp [intOf]; omega
    · have hd : decide (k < m) = false := by simpa using hlt
      obtain rfl : k = m := by omega
      go_wp2
      go_ret
      exact ⟨_, rfl, hrel.out.1, hrel.out.2⟩
end Go.Proofs.Ytnhmhnejglpijaa
