/- slices.Repeat of a trick: walks. -/
import Derived.Test.YtnhmhnejglpijaaNq
namespace Go.Proofs.Ytnhmhnejglpijaa
open Go.RowKit
set_option maxRecDepth 100000
set_option linter.unusedSimpArgs false
set_option linter.unusedVariables false
theorem mul64_calls (n : Nat) (hn : n ≤ 1000) (w : World) : Calls Try.prog 120 #[.int .u64 1, .int .u64 n] w fun e w' => e = .returned (.tuple #[.int .u64 0, .int .u64 n]) ∧ w = w' := by
  have h1 : bits .and .u64 (n : Int) 4294967295 = (n : Int) := by
    have := bits_and_u64_nat n 4294967295 (by omega) (by omega)
    rw [show (4294967295 : Int) = ((4294967295 : Nat) : Int) from rfl, this]
    congr 1
    rw [show (4294967295 : Nat) = 2 ^ 32 - 1 from rfl, Nat.and_two_pow_sub_one_eq_mod]
    omega
  have h2 : bits .and .u64 (1 : Int) 4294967295 = 1 := by decide
  have h3 : bits .and .u64 (0 : Int) 4294967295 = 0 := by decide
  have h4 : (n : Int) / 4294967296 = 0 := by omega
  go_enter Try.func120, Try.ntmps120
  go_wp2
  go_ret2
  exact ⟨rfl, rfl⟩
theorem mul_calls (n : Nat) (hn : n ≤ 1000) (w : World) : Calls Try.prog 102 #[.int .u64 1, .int .u64 n] w fun e w' => e = .returned (.tuple #[.int .u64 0, .int .u64 n]) ∧ w = w' := by
  go_enter Try.func102, Try.ntmps102
  go_wp2_with (go_at_call 120; (with_reducible refine (mul64_calls n hn _).mono ?_); rintro e w' ⟨rfl, rfl⟩)
  go_ret2
  exact ⟨rfl, rfl⟩
/-! ### copy of elements of several cells -/
theorem run_copy_rowS {P : Program} (w : World) (dT sT ty elem : TypeId) (i0 : TypeInfo) (g o dLen dCap : Nat) (a : Addr) (sLen sCap m : Nat) (cur : Array Value) (t : TypeId) (cs : List Value)
    (hu : P.underlying dT = some (.slice elem)) (hi : P.info? elem = some i0)
    (hg : w.heap[g]? = some (.cells cur t (0, 0))) (hm : m = Nat.min sLen dLen) (hn : cs.length = m * i0.size)
    (hsrc : ∀ j v, cs[j]? = some v → w.cell? (a.add j) = some v) (hfit : o + cs.length ≤ cur.size) (h1 : ∀ v ∈ cs, v.oneCell' = true) :
    (Builtin.copy_ #[dT, sT] ty #[.slice (some ⟨g, o, none⟩) dLen dCap, .slice (some a) sLen sCap]).run P w =
      .ok (goInt m) (w.setRow g (cur.toList.take o ++ cs ++ cur.toList.drop (o + cs.length)).toArray) := by
  have hl := run_firstCells_some (P := P) w i0.size m a sLen sCap cs hn hsrc
  have hst := run_storeCells_at P g o t cs 0 cur w hg (by simpa using hfit) h1
  simp [Builtin.copy_, run_underlying hu, Builtin.lenOf, sizeOf, typeInfo, hi, ← hm, hl, hst]
theorem wpList_copyS {P : Program} {w : World} {ops : Array Oper} {rest : List Oper} {o : Oper} {a : Act} {Q : Exit → Act → World → Prop} (hgd : o.guard = none) (d s : Operand) (dT sT : TypeId)
    (ho : o.op = .call { callee := .builtin .copy, args := #[d, s], argTypes := #[dT, sT] }) (elem : TypeId) (i0 : TypeInfo) (hu : P.underlying dT = some (.slice elem)) (hi : P.info? elem = some i0)
    (g off dLen dCap : Nat) (ad : Addr) (sLen sCap m : Nat) (hd : a.eval d = .slice (some ⟨g, off, none⟩) dLen dCap) (hs : a.eval s = .slice (some ad) sLen sCap)
    (cur : List Value) (t : TypeId) (hg : w.heap[g]? = some (.cells cur.toArray t (0, 0))) (cs : List Value) (hm : m = Nat.min sLen dLen) (hn : cs.length = m * i0.size)
    (hsrc : ∀ j v, cs[j]? = some v → w.cell? (ad.add j) = some v) (hfit : off + cs.length ≤ cur.length) (h1 : ∀ v ∈ cs, v.oneCell' = true) (B : Nat) (w0 : World) (hb : Below B w0 w) (hBg : B ≤ g)
    (h : ∀ w', Hid (w'.heap[g]? = some (.cells (splice cur off cs).toArray t (0, 0))) → Below B w0 w' → wpList P ops Q rest (a.put o.dst (goInt m)) w') : wpList P ops Q (o :: rest) a w := by
  refine wpList_plain hgd fun K hK => ?_
  have hrun := run_copy_rowS (P := P) w dT sT o.type elem i0 g off dLen dCap ad sLen sCap m cur.toArray t cs hu hi hg hm hn hsrc (by simpa using hfit) h1
  unfold Oper.wp
  simp [execOp, ho, resolve, invoke, builtin, hd, hs, hrun, Result.andThen]
  exact hK _ _ (h _ (show _ = _ by simpa [splice] using setRow_heap w g _ _ t _ hg) (below_setRow hb hBg _))
theorem step_copyS {P : Program} {w : World} {ops : Array Oper} {o : Oper} {a : Act} {K : Act → World → Prop} {Q : Exit → Act → World → Prop} {E : Prop} (hgd : o.guard = none) (d s : Operand) (dT sT : TypeId)
    (ho : o.op = .call { callee := .builtin .copy, args := #[d, s], argTypes := #[dT, sT] }) (elem : TypeId) (i0 : TypeInfo) (hu : P.underlying dT = some (.slice elem)) (hi : P.info? elem = some i0)
    (g off dLen dCap : Nat) (ad : Addr) (sLen sCap m : Nat) (hd : a.eval d = .slice (some ⟨g, off, none⟩) dLen dCap) (hs : a.eval s = .slice (some ad) sLen sCap)
    (cur : List Value) (t : TypeId) (hg : w.heap[g]? = some (.cells cur.toArray t (0, 0))) (cs : List Value) (hm : m = Nat.min sLen dLen) (hn : cs.length = m * i0.size)
    (hsrc : ∀ j v, cs[j]? = some v → w.cell? (ad.add j) = some v) (hfit : off + cs.length ≤ cur.length) (h1 : ∀ v ∈ cs, v.oneCell' = true) (B : Nat) (w0 : World) (hb : Below B w0 w) (hBg : B ≤ g)
    (h : ∀ w', Hid (w'.heap[g]? = some (.cells (splice cur off cs).toArray t (0, 0))) → Below B w0 w' → K (a.put o.dst (goInt m)) w') :
    if Region.wanted o (yielded ops a.tmps) = true then Oper.wp P o a w K Q else E := by
  have hw : Region.wanted o (yielded ops a.tmps) = true := by simp [Region.wanted, hgd]
  rw [if_pos hw]
  have hrun := run_copy_rowS (P := P) w dT sT o.type elem i0 g off dLen dCap ad sLen sCap m cur.toArray t cs hu hi hg hm hn hsrc (by simpa using hfit) h1
  unfold Oper.wp
  simp [execOp, ho, resolve, invoke, builtin, hd, hs, hrun, Result.andThen]
  exact h _ (show _ = _ by simpa [splice] using setRow_heap w g _ _ t _ hg) (below_setRow hb hBg _)
/-! ### rows of one trick -/
def tkC (i : Nat) : Value := if i % 4 = 0 then .int .i64 1 else if i % 4 = 3 then .int .u32 0 else .int .i64 0
def zkC (i : Nat) : Value := if i % 4 = 3 then .int .u32 0 else .int .i64 0
def repC (n m : Nat) : List Value := (List.range (n * 4)).map fun i => if i < m * 4 then tkC i else zkC i
def tkL (m : Nat) : List Value := (List.range (m * 4)).map tkC
theorem repC_length (n m : Nat) : (repC n m).length = n * 4 := by simp [repC]
theorem repC_get (n m i : Nat) (hi : i < n * 4) : (repC n m)[i]? = some (if i < m * 4 then tkC i else zkC i) := by simp [repC, hi]
theorem repC_made (n : Nat) : madeCells (Value.agg #[.int .i64 0, .int .i64 0, .int .i64 0, .int .u32 0]).cells (n * 4) = (repC n 0).toArray := by
  apply Array.ext
  · simp [madeCells, repC]
  · intro i h1 h2
    have hi : i < n * 4 := by simpa [madeCells] using h1
    have : ∀ r : Fin 4, (#[Value.int .i64 0, .int .i64 0, .int .i64 0, .int .u32 0] : Array Value)[r.val]! = if r.val = 3 then Value.int .u32 0 else .int .i64 0 := by
      intro r
      match r with
      | ⟨0, _⟩ => rfl
      | ⟨1, _⟩ => rfl
      | ⟨2, _⟩ => rfl
      | ⟨3, _⟩ => rfl
    have h4 := this ⟨i % 4, Nat.mod_lt _ (by decide)⟩
    simp only [madeCells, Array.getElem_map, Array.getElem_range, repC, List.getElem_toArray, List.getElem_map, List.getElem_range, Nat.zero_mul, Nat.not_lt_zero, if_false, zkC]
    exact h4
theorem repC_splice (n m k : Nat) (h : m + k ≤ n) : splice (repC n m) (m * 4) (tkL k) = repC n (m + k) := by
  apply List.ext_getElem?
  intro i
  unfold splice
  by_cases hi : i < n * 4
  · rw [repC_get n (m + k) i hi]
    by_cases h1 : i < m * 4
    · rw [List.getElem?_append_left (by simp [repC]; omega), List.getElem?_take, if_pos h1, repC_get n m i hi, if_pos h1, if_pos (by omega)]
    · rw [List.getElem?_append_right (by simp [repC]; omega)]
      have hl : (List.take (m * 4) (repC n m)).length = m * 4 := by simp [repC]; omega
      rw [hl]
      by_cases h2 : i < (m + k) * 4
      · rw [List.getElem?_append_left (by simp [tkL]; omega), if_pos h2]
        have : i - m * 4 < k * 4 := by omega
        simp only [tkL, List.getElem?_map, List.getElem?_range this, Option.map_some, tkC]
        rw [show (i - m * 4) % 4 = i % 4 from by omega]
      · rw [List.getElem?_append_right (by simp [tkL]; omega), if_neg h2, List.getElem?_drop]
        have hl2 : (tkL k).length = k * 4 := by simp [tkL]
        rw [hl2, show m * 4 + k * 4 + (i - m * 4 - k * 4) = i from by omega, repC_get n m i hi, if_neg h1]
  · rw [List.getElem?_eq_none (by simp [repC, tkL]; omega), List.getElem?_eq_none (by simp [repC]; omega)]
theorem tkL_one (k : Nat) : ∀ v, v ∈ tkL k → v.oneCell' = true := by
  intro v hv
  obtain ⟨i, _, rfl⟩ := List.mem_map.1 hv
  unfold tkC
  repeat' split
  all_goals rfl
theorem tkL_get (k j : Nat) (u : Value) (h : (tkL k)[j]? = some u) : j < k * 4 ∧ u = tkC j := by
  have hj : j < k * 4 := by
    have := (List.getElem?_eq_some_iff.1 h).1
    simpa [tkL] using this
  simp only [tkL, List.getElem?_map, List.getElem?_range hj, Option.map_some, Option.some.injEq] at h
  exact ⟨hj, h.symm⟩
theorem Try.info48 : (Try.prog.info? 48).map (fun i => (i.zero, i.size, i.bytes)) = some (some (.agg #[.int .i64 0, .int .i64 0, .int .i64 0, .int .u32 0]), 4, 32) := by kernel_rfl
set_option maxHeartbeats 4000000 in
theorem repeat_calls (a n : Nat) (f : Nat × Nat) (w : World) (hn : n ≤ 64) (ha : w.heap[a]? = some (.cells #[.int .i64 1, .int .i64 0, .int .i64 0, .int .u32 0] 48 f)) :
    Calls Try.prog 67 #[.slice (some ⟨a, 0, none⟩) 1 1, .int .i64 n] w fun e w' => ∃ g, e = .returned (.slice (some ⟨g, 0, none⟩) n n) ∧ w'.heap[g]? = some (.cells (repC n n).toArray 48 (0, 0)) ∧ Below w.heap.size w w' := by
  obtain ⟨i0, hi, hz0, hz1, hz2⟩ := info_parts Try.info48
  have hmk : ∀ w, (Instr.makeSlice 43 (.int .i64 n) (.int .i64 n)).run Try.prog w = .ok (.slice (some ⟨w.heap.size, 0, none⟩) n n) (w.alloc (.cells (repC n 0).toArray 48)) := fun w => by
    have := run_make (P := Try.prog) w 43 48 i0 _ Try.underlying43 hi hz0 .i64 .i64 n n (by omega) (by omega) (by rw [hz2]; omega) (by omega)
    rw [this, hz1, Int.toNat_natCast, repC_made]
  have hlt := lt_of_heap ha
  have HA := Lib.hid ha
  have HN := Lib.hid (show n ≤ 1000 by omega)
  have d0 : decide ((n : Int) < 0) = false := decide_eq_false (by omega)
  clear ha
  go_enter Try.func67, Try.ntmps67
  go_wp2_with (first
    | (go_at_call 102; (with_reducible refine (mul_calls n HN.out _).mono ?_); rintro e w' ⟨rfl, rfl⟩)
    | (refine wpList_copyS rfl (.tmp 31) (.tmp 32) 43 43 rfl 48 i0 Try.underlying43 hi w.heap.size 0 n n ⟨a, 0, none⟩ 1 1 (min 1 n) rfl rfl (repC n 0) 48 (new_here w _) (tkL (min 1 n)) rfl ?hn ?hsrc ?hfit (tkL_one _) w.heap.size _ (Below.refl _ _) (Nat.le_refl _) ?_; rotate_left 3; intro w6 hg6 hb6))
  case hn => rw [hz1]; simp [tkL]
  case hsrc =>
    intro j u hu
    obtain ⟨hj, rfl⟩ := tkL_get _ _ _ hu
    have hj4 : j < 4 := by omega
    rw [add_plain]
    have hh := ((below_al (Below.refl _ w) (.cells (repC n 0).toArray 48)).block a hlt).trans HA.out
    have := cell_of_heap (k := j) hh
    rw [this]
    match j, hj4 with
    | 0, _ => rfl
    | 1, _ => rfl
    | 2, _ => rfl
    | 3, _ => rfl
  case hfit => simp [tkL, repC]; omega
  have hst : w6.heap[w.heap.size]? = some (.cells (repC n (min 1 n)).toArray 48 (0, 0)) ∧ Below w.heap.size w w6 := by
    refine ⟨?_, (below_al (Below.refl _ w) _).trans (hb6.mono (Nat.le_refl _))⟩
    have := hg6.out
    rw [show splice (repC n 0) 0 (tkL (min 1 n)) = repC n (min 1 n) from by
      have := repC_splice n 0 (min 1 n) (by omega)
      simpa using this] at this
    exact this
  have HST := Lib.hid hst
  have hm1 : min 1 n ≤ n := by omega
  have hm2 : min 1 n = 0 → n = 0 := by omega
  generalize min 1 n = m0 at *
  have HM2 := Lib.hid hm2
  clear hst hg6 hb6 hlt hmk hm2
  go_loopw [8] (fun i wr => ∃ m : Nat, m ≤ n ∧ i = .int .i64 m ∧ Hid ((m = 0 → n = 0) ∧ wr.heap[w.heap.size]? = some (.cells (repC n m).toArray 48 (0, 0)) ∧ Below w.heap.size w wr)) (fun i _ => n - (intOf i).toNat)
  case atStart => exact ⟨m0, hm1, rfl, Lib.hid ⟨HM2.out, HST.out.1, HST.out.2⟩⟩
  case round =>
    obtain ⟨m, hm, rfl, hrel⟩ := hrel
    by_cases hlt : m < n
    · have hd : decide ((m : Int) < (n : Int)) = true := decide_eq_true (by omega)
      obtain ⟨r1, r2, r3⟩ := hrel.out
      obtain ⟨c, hc⟩ : ∃ c, c = Nat.min m (n - m) := ⟨_, rfl⟩
      have hcm : c ≤ m := by rw [hc]; exact Nat.min_le_left _ _
      have hcn : m + c ≤ n := by
        have : c ≤ n - m := by rw [hc]; exact Nat.min_le_right _ _
        omega
      have hc1 : 1 ≤ c := by
        rw [hc]
        have : 1 ≤ m := by
          rcases Nat.eq_zero_or_pos m with h | h
          · have := r1 h; omega
          · exact h
        exact Nat.le_min.2 ⟨this, by omega⟩
      have hne : ¬ n = m := by omega
      have i1 : m ≤ n := hm
      have i2 : (m : Int) ≤ (n : Int) := by omega
      have i3 : (0 : Int) ≤ (m : Int) := by omega
      have e1 : IntKind.i64.wrap ((m : Int) + (c : Int)) = ((m + c : Nat) : Int) := by rw [IntKind.wrap_i64]; omega
      have hsrc : Hid (∀ (X : World) j u, Below wr.heap.size wr X → (tkL c)[j]? = some u → X.cell? ((⟨w.heap.size, 0, none⟩ : Addr).add j) = some u) := Lib.hid (fun X j u hX hu => by
        obtain ⟨hj, rfl⟩ := tkL_get _ _ _ hu
        rw [add_plain, cell_of_heap ((hX.block _ (lt_of_heap r2)).trans r2), List.getElem?_toArray, repC_get n m j (by omega), if_pos (by omega)])
      have HC := Lib.hid hc
      have HR2 := Lib.hid r2
      have HR3 := Lib.hid r3
      have HCN := Lib.hid hcn
      have HLN : Hid ((tkL c).length = c * i0.size ∧ m * 4 + (tkL c).length ≤ (repC n m).length) := Lib.hid ⟨by rw [hz1]; simp [tkL], by simp [tkL, repC]; omega⟩
      clear r1 r2 r3 hc hz1 hz2 hz0
      go_wp2
      go_region_held3 (fun X => True) (exact trivial) ((refine step_copyS (by rfl) (.tmp 41) (.tmp 44) 43 43 (by rfl) 48 i0 Try.underlying43 hi w.heap.size (m * 4) (n - m) (n - m) ⟨w.heap.size, 0, none⟩ m n c (by rfl) (by rfl) (repC n m) 48 HR2.out (tkL c) HC.out HLN.out.1 (fun j u hu => hsrc.out _ j u (by repeat (first | exact Below.refl _ _ | apply below_dr)) hu) HLN.out.2 (tkL_one c) w.heap.size _ (Below.refl _ _) (Nat.le_refl _) ?_; intro w7 hg7 hb7))
      go_wp2
      have hnew : (m + c = 0 → n = 0) ∧ w7.heap[w.heap.size]? = some (.cells (repC n (m + c)).toArray 48 (0, 0)) ∧ Below w.heap.size w w7 := by
        refine ⟨fun h => by omega, ?_, (HR3.out.drew).trans hb7⟩
        have := hg7.out
        rw [repC_splice n m c HCN.out] at this
        exact this
      have HNEW := Lib.hid hnew
      clear hnew hg7 hb7
      go_roundw
      case rel => exact ⟨m + c, HCN.out, by go_num, HNEW⟩
      case measure => simp [intOf]; omega
    · have hd : decide ((m : Int) < (n : Int)) = false := decide_eq_false (by omega)
      have hmn : m = n := by omega
      subst hmn
      go_wp2
      go_ret
      exact ⟨_, rfl, hrel.out.2.1, hrel.out.2.2⟩
end Go.Proofs.Ytnhmhnejglpijaa
