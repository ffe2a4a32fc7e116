/- Rows of bytes in memory; the iterator that tells their bytes. -/
import Derived.Test.YtekbjgnlaompbaaCd
import Derived.RangeFuncNested
import Derived.RangeFuncBound
import Derived.RangeFuncCalls
import Derived.RangeFuncLeaves
import Derived.Shelf.Abstract
import Derived.Shelf.RegionOpen
import Derived.OwnWalkIn
import Derived.TacticsInMore
import Derived.LoopNIn
import Derived.LoopIn
import Derived.Scope
import Derived.WalkMore
namespace Go.Proofs.Ytekbjgnlaompbaa
open Go.RowKit Go.Shelf
attribute [local go_sem] Oper.semAt_some
theorem wpInW_scope {P : Program} {n : Nat} {c : Code} {Q : Exit → Act → World → Prop} {a : Act} {w : World} (h : c.wpIn Fence.wide n P (Exit.noGoto Q) a w) : (Code.scope c).wpIn Fence.wide n P Q a w :=
  (wpIn_wide (n := n)).2 (wp_scope_straight ((wpIn_wide (n := n)).1 h))
def byteAt (bs : List B8) (j : Nat) : B8 := bs.getD j 0#8
/-- The slice v holds the bytes bs. -/
def Bys (w : World) (v : Value) (bs : List B8) : Prop :=
  ∃ A cap, v = .slice A bs.length cap ∧ bs.length ≤ cap ∧ cap ≤ maxLen ∧ (A = none → cap = 0) ∧ (0 < bs.length → ∃ b off, A = some ⟨b, off, none⟩ ∧ ∀ j, j < bs.length → w.cell? ⟨b, off + j, none⟩ = some (.int .u8 (bn (byteAt bs j))))
theorem Bys.below {w w' : World} {v : Value} {bs : List B8} (h : Bys w v bs) (hb : Below w.heap.size w w') : Bys w' v bs := by
  obtain ⟨A, cap, e, h1, h2, h4, h3⟩ := h
  refine ⟨A, cap, e, h1, h2, h4, fun h => ?_⟩
  obtain ⟨b, off, e, hc⟩ := h3 h
  exact ⟨b, off, e, fun j hj => (hb.cell (p := ⟨b, off + j, none⟩) (World.block_lt_of_cell? w _ (hc j hj))).trans (hc j hj)⟩
/-- The slice v holds rows of bytes. -/
def Rws (w : World) (v : Value) (rows : List (List B8)) : Prop :=
  ∃ A cap, v = .slice A rows.length cap ∧ rows.length ≤ 140737488355328 ∧ (0 < rows.length → ∃ b off, A = some ⟨b, off, none⟩ ∧ ∀ j, j < rows.length → ∃ sv, w.cell? ⟨b, off + j, none⟩ = some sv ∧ Bys w sv (rows.getD j []))
theorem Rws.below {w w' : World} {v : Value} {rows : List (List B8)} (h : Rws w v rows) (hb : Below w.heap.size w w') : Rws w' v rows := by
  obtain ⟨A, cap, e, h2, h3⟩ := h
  refine ⟨A, cap, e, h2, fun h => ?_⟩
  obtain ⟨b, off, e, hc⟩ := h3 h
  refine ⟨b, off, e, fun j hj => ?_⟩
  obtain ⟨sv, h1, hb1⟩ := hc j hj
  exact ⟨sv, (hb.cell (p := ⟨b, off + j, none⟩) (World.block_lt_of_cell? w _ h1)).trans h1, hb1.below hb⟩
/-- what has come, k rows and i bytes of the next being over -/
def told (rows : List (List B8)) (k i : Nat) : List B8 := (rows.take k).flatten ++ (rows.getD k []).take i
theorem told_zero (rows : List (List B8)) : told rows 0 0 = [] := by simp [told]
theorem told_row (rows : List (List B8)) (k i : Nat) (hk : k < rows.length) (hi : (rows.getD k []).length ≤ i) : told rows (k + 1) 0 = told rows k i := by
  simp only [told, List.take_zero, List.append_nil]
  rw [List.take_of_length_le hi, List.take_add_one, List.flatten_append]
  simp [List.getD_eq_getElem?_getD, hk]
theorem told_byte (rows : List (List B8)) (k i : Nat) (hi : i < (rows.getD k []).length) : told rows k (i + 1) = told rows k i ++ [byteAt (rows.getD k []) i] := by
  simp only [told, List.append_assoc]
  congr 1
  generalize rows.getD k [] = r at hi ⊢
  rw [List.take_add_one]
  simp [byteAt, List.getD_eq_getElem?_getD, hi]
theorem told_all (rows : List (List B8)) : told rows rows.length 0 = rows.flatten := by simp [told]
theorem told_prefix (rows : List (List B8)) (k i : Nat) : told rows k i <+: rows.flatten := by
  by_cases hk : k < rows.length
  · refine ⟨(rows.getD k []).drop i ++ (rows.drop (k + 1)).flatten, ?_⟩
    simp only [told, List.append_assoc]
    rw [← List.append_assoc ((rows.getD k []).take i), List.take_append_drop]
    conv => rhs; rw [← List.take_append_drop k rows]
    rw [List.flatten_append]
    congr 1
    rw [List.drop_eq_getElem_cons hk, List.flatten_cons]
    simp [List.getD_eq_getElem?_getD, hk]
  · refine ⟨[], ?_⟩
    simp only [told, List.append_nil]
    rw [List.take_of_length_le (by omega)]
    simp [List.getD_eq_getElem?_getD, List.getElem?_eq_none (show rows.length ≤ k by omega)]
theorem told_length (rows : List (List B8)) (k i : Nat) (hi : i < (rows.getD k []).length) : (told rows k i).length < rows.flatten.length := by
  have h1 := (told_prefix rows k (i + 1)).length_le
  rw [told_byte rows k i hi] at h1
  simp at h1 ⊢
  omega
set_option maxRecDepth 100000 in
set_option maxHeartbeats 2000000 in
theorem each1_in (n : Nat) (hn : 1 ≤ n) (l Bs n₀ : Nat) (rv : Value) (rows : List (List B8)) (J Jx : List B8 → World → Prop)
    (hY : ∀ pre x W, J pre W → pre.length < rows.flatten.length → YieldAt Fence.wide (n - 1) Try.prog l #[.int .u8 (bn x)] W fun e W' =>
      (e = .returned (.bool true) ∧ J (pre ++ [x]) W' ∧ Below n₀ W W') ∨ (e = .returned (.bool false) ∧ Jx (pre ++ [x]) W'))
    (w0 : World) (hn0 : w0.heap.size = n₀) (hR : Rws w0 rv rows) (W : World) (hw0 : Below n₀ w0 W) (hBs : W.cell? ⟨Bs, 0, none⟩ = some rv) (h0 : J [] W) :
    CallsIn Fence.wide n Try.prog 40 #[.func (.yield l) #[] #[], .pointer (some ⟨Bs, 0, none⟩)] W fun e W' => (∃ v, e = .returned v) ∧
      ((∃ ys, ys = rows.flatten ∧ J ys W') ∨ (∃ pre, pre <+: rows.flatten ∧ Jx pre W')) := by
  subst hn0
  obtain ⟨A, cap, rfl, hlen, hrow⟩ := hR
  have hlen' : rows.length ≤ 9223372036854775807 := by omega
  have HR := Lib.hid hrow
  have HY := Lib.hid hY
  clear hrow hY
  refine callsIn_of_wp Try.func40 rfl trivial ?_ rfl
  simp only [Try.ntmps40, List.size_toArray, List.length_cons, List.length_nil, Nat.reduceAdd, Nat.reduceSub, Array.replicate_succ, Array.replicate_zero, List.push_toArray, List.append_toArray, List.nil_append, List.cons_append]
  gi_wp2
  refine wpInW_scope ?_
  refine wpIn_seq (wpIn_label ?_)
  simp only [Exit.then]
  gi_wp2
  gi_loopw [9] (fun i wr => ∃ k : Nat, k ≤ rows.length ∧ i = .int .i64 k ∧ J (told rows k 0) wr ∧ Below w0.heap.size w0 wr) (fun i _ => rows.length - (intOf i).toNat)
  case atStart => exact ⟨0, Nat.zero_le _, rfl, by rw [told_zero]; exact h0, hw0⟩
  case round =>
    obtain ⟨k, hk, rfl, hJs, hnx⟩ := hrel
    by_cases hlt : k < rows.length
    · obtain ⟨b, off, rfl, hc⟩ := HR.out (by omega)
      obtain ⟨sv, hc1, hb1⟩ := hc k hlt
      have hcx := (hnx.cell (p := ⟨b, off + k, none⟩) (World.block_lt_of_cell? _ _ hc1)).trans hc1
      obtain ⟨A1, cap1, rfl, hl1, hl2, _, hbs⟩ := hb1
      unfold maxLen at hl2
      have HS := Lib.hid hbs
      clear hbs hc hc1
      have hl3 : (rows.getD k []).length ≤ 9223372036854775807 := by omega
      generalize hrk : rows.getD k [] = r at *
      have HRK := Lib.hid hrk
      clear hrk
      have hd : decide (k < rows.length) = true := by simpa using hlt
      gi_wp2
      obtain ⟨wo, rfl⟩ : ∃ wo : World, wo = wr := ⟨_, rfl⟩
      gi_loopw [15, 6] (fun i _ w2 => ∃ j : Nat, j ≤ r.length ∧ i = .int .i64 j ∧ J (told rows k j) w2 ∧ Below w0.heap.size w0 w2) (fun i _ _ => r.length - (intOf i).toNat)
      case atStart => exact ⟨0, Nat.zero_le _, rfl, hJs, hnx⟩
      case round =>
        obtain ⟨j, hj, rfl, hJs2, hnx2⟩ := hrel
        by_cases hlt2 : j < r.length
        · obtain ⟨b1, off1, rfl, hcb⟩ := HS.out (by omega)
          have hcj := hcb j hlt2
          have hcy := (hnx2.cell (p := ⟨b1, off1 + j, none⟩) (World.block_lt_of_cell? _ _ hcj)).trans hcj
          obtain ⟨fn, tmps, assign, body, hy, hRd⟩ := HY.out _ (byteAt r j) wr hJs2 (by have := told_length rows k j (by rw [HRK.out]; exact hlt2); exact this)
          clear hcb hcj
          have hd2 : decide (j < r.length) = true := by simpa using hlt2
          have hnot : ∀ (x : Bool) (w : World), (Op.unary .not (.bool x)).run Try.prog w = .ok (.bool (!x)) w := fun _ _ => rfl
          gi_wp2
          refine hRd.mono ?_
          rintro e W3 (⟨rfl, hJ3, hk3⟩ | ⟨rfl, hJx3⟩)
          · gi_wp2
            go_roundw
            case rel => exact ⟨j + 1, by omega, by go_num, by rw [told_byte rows k j (by rw [HRK.out]; exact hlt2), HRK.out]; exact hJ3, hnx2.trans hk3⟩
            case measure => simp [intOf]; omega
          · gi_wp2
            simp only [Exit.noGoto_normal, Exit.noGoto_ret]
            go_end0
            refine ⟨⟨_, rfl⟩, .inr ⟨_, told_prefix rows k (j + 1), ?_⟩⟩
            rw [told_byte rows k j (by rw [HRK.out]; exact hlt2), HRK.out]
            exact hJx3
        · have hd2 : decide (j < r.length) = false := by simpa using hlt2
          gi_wp2
          go_roundw
          case rel => exact ⟨k + 1, by omega, by go_num, by rw [told_row rows k j hlt (by rw [HRK.out]; omega)]; exact hJs2, hnx2⟩
          case measure => simp [intOf]; omega
    · have hd : decide (k < rows.length) = false := by simpa using hlt
      have hke : k = rows.length := by omega
      have hJe : J rows.flatten wr := by rw [← told_all, ← hke]; exact hJs
      clear hke
      gi_wp2
      simp only [Exit.noGoto_normal, Exit.noGoto_ret]
      go_end0
      exact ⟨⟨_, rfl⟩, .inl ⟨_, rfl, hJe⟩⟩
theorem each_stops (n : Nat) (hn : 1 ≤ n) (Bs n₀ : Nat) (rv : Value) (rows : List (List B8)) (w0 w : World) (hn0 : w0.heap.size = n₀) (hR : Rws w0 rv rows) (hw : Below n₀ w0 w) (hBs : w.cell? ⟨Bs, 0, none⟩ = some rv) :
    SeqStopsK Fence.wide n Try.prog 40 #[.pointer (some ⟨Bs, 0, none⟩)] (fun x : B8 => #[Value.int .u8 (bn x)]) (Below n₀) (fun ys => ys = rows.flatten) (fun pre => pre <+: rows.flatten) rows.flatten.length w := fun l J Jx W hW _ _ hY h0 => by
  have hlt := World.block_lt_of_cell? _ _ hBs
  exact each1_in n hn l Bs n₀ rv rows J Jx hY w0 hn0 hR W (hw.trans (hW.mono (by have := hw.size; omega))) ((hW.cell (p := ⟨Bs, 0, none⟩) hlt).trans hBs) h0
theorem each_calls (n : Nat) (A : Option Addr) (l c : Nat) (w : World) :
    CallsIn Fence.wide n Try.prog 38 #[.slice A l c] w fun e w' => e = .returned (.func (.func 40) #[] #[.pointer (some ⟨w.heap.size, 0, none⟩)]) ∧ w' = w.alloc (.cells #[.slice A l c] 43) := by
  have hmf : ∀ (fn : Fn) (first cap : Array Value) (w : World), (Instr.makeFunc fn first cap).run Try.prog w = .ok (.func fn first cap) w := fun _ _ _ _ => rfl
  refine callsIn_of_wp Try.func38 rfl trivial ?_ rfl
  simp only [Try.ntmps38, List.size_toArray, List.length_cons, List.length_nil, Nat.reduceAdd, Nat.reduceSub, Array.replicate_succ, Array.replicate_zero, List.push_toArray, List.append_toArray, List.nil_append, List.cons_append]
  gi_wp2
  go_ret
  exact ⟨rfl, rfl⟩
def regCells (bt : Nat) (x : W32) : Array Value := #[.pointer (some ⟨bt, 0, none⟩), .int .u32 (nb x)]
theorem of_calls (x : W32) (w : World) : Calls Try.prog 37 #[.int .u32 (nb x)] w fun e w' => e = .returned (.pointer (some ⟨w.heap.size + 1, 0, none⟩)) ∧
    w' = (w.alloc (.cells (tabCells 0 0 0) 74)).alloc (.cells (regCells w.heap.size x) 77) := by
  go_enter Try.func37, Try.ntmps37
  go_wp2
  go_ret
  exact ⟨rfl, rfl⟩
end Go.Proofs.Ytekbjgnlaompbaa
