/- Rows of bytes in memory; the iterator that tells their bytes. Sums of rows. Bytes of the call's own; sums, clones. Sums, clones, equality: walks. -/
import Derived.Test.YtnhmhnejglpijaaCd
import Derived.RangeFuncNested
import Derived.RangeFuncBound
import Derived.RangeFuncCalls
import Derived.RangeFuncLeaves
import Derived.Shelf.Abstract
import Derived.Shelf.RegionOpen
import Derived.OwnWalkIn
import Derived.TacticsInMore
import Derived.LoopNIn
import Derived.LoopIn
import Derived.Scope
import Derived.WalkMore
import Derived.Laws.EntriesVeiled
import Derived.Laws.AppendOwnNone
import Derived.Laws.CopyOwn
import Derived.Maps.AppendAt
import Derived.Lib.SliceRun
import Derived.Deep.QuietTactic
import Derived.BigQuiet
import Derived.Deep.LoopGhost
namespace Go.Proofs.Ytnhmhnejglpijaa
open Go.RowKit Go.Shelf
attribute [local go_sem] Oper.semAt_some
theorem wpInW_scope {P : Program} {n : Nat} {c : Code} {Q : Exit → Act → World → Prop} {a : Act} {w : World} (h : c.wpIn Fence.wide n P (Exit.noGoto Q) a w) : (Code.scope c).wpIn Fence.wide n P Q a w :=
  (wpIn_wide (n := n)).2 (wp_scope_straight ((wpIn_wide (n := n)).1 h))
def byteAt (bs : List B8) (j : Nat) : B8 := bs.getD j 0#8
/-- The slice v holds the bytes bs. -/
def Bys (w : World) (v : Value) (bs : List B8) : Prop :=
  ∃ A cap, v = .slice A bs.length cap ∧ bs.length ≤ cap ∧ cap ≤ maxLen ∧ (A = none → cap = 0) ∧ (0 < bs.length → ∃ b off, A = some ⟨b, off, none⟩ ∧ ∀ j, j < bs.length → w.cell? ⟨b, off + j, none⟩ = some (.int .u8 (bn (byteAt bs j))))
theorem Bys.below {w w' : World} {v : Value} {bs : List B8} (h : Bys w v bs) (hb : Below w.heap.size w w') : Bys w' v bs := by
  obtain ⟨A, cap, e, h1, h2, h4, h3⟩ := h
  refine ⟨A, cap, e, h1, h2, h4, fun h => ?_⟩
  obtain ⟨b, off, e, hc⟩ := h3 h
  exact ⟨b, off, e, fun j hj => (hb.cell (p := ⟨b, off + j, none⟩) (World.block_lt_of_cell? w _ (hc j hj))).trans (hc j hj)⟩
/-- The slice v holds rows of bytes. -/
def Rws (w : World) (v : Value) (rows : List (List B8)) : Prop :=
  ∃ A cap, v = .slice A rows.length cap ∧ rows.length ≤ 140737488355328 ∧ (0 < rows.length → ∃ b off, A = some ⟨b, off, none⟩ ∧ ∀ j, j < rows.length → ∃ sv, w.cell? ⟨b, off + j, none⟩ = some sv ∧ Bys w sv (rows.getD j []))
theorem Rws.below {w w' : World} {v : Value} {rows : List (List B8)} (h : Rws w v rows) (hb : Below w.heap.size w w') : Rws w' v rows := by
  obtain ⟨A, cap, e, h2, h3⟩ := h
  refine ⟨A, cap, e, h2, fun h => ?_⟩
  obtain ⟨b, off, e, hc⟩ := h3 h
  refine ⟨b, off, e, fun j hj => ?_⟩
  obtain ⟨sv, h1, hb1⟩ := hc j hj
  exact ⟨sv, (hb.cell (p := ⟨b, off + j, none⟩) (World.block_lt_of_cell? w _ h1)).trans h1, hb1.below hb⟩
/-- what has come, k rows and i bytes of the next being over -/
def told (rows : List (List B8)) (k i : Nat) : List B8 := (rows.take k).flatten ++ (rows.getD k []).take i
theorem told_zero (rows : List (List B8)) : told rows 0 0 = [] := by simp [told]
theorem told_row (rows : List (List B8)) (k i : Nat) (hk : k < rows.length) (hi : (rows.getD k []).length ≤ i) : told rows (k + 1) 0 = told rows k i := by
  simp only [told, List.take_zero, List.append_nil]
  rw [List.take_of_length_le hi, List.take_add_one, List.flatten_append]
  simp [List.getD_eq_getElem?_getD, hk]
theorem told_byte (rows : List (List B8)) (k i : Nat) (hi : i < (rows.getD k []).length) : told rows k (i + 1) = told rows k i ++ [byteAt (rows.getD k []) i] := by
  simp only [told, List.append_assoc]
  congr 1
  generalize rows.getD k [] = r at hi ⊢
  rw [List.take_add_one]
  simp [byteAt, List.getD_eq_getElem?_getD, hi]
theorem told_all (rows : List (List B8)) : told rows rows.length 0 = rows.flatten := by simp [told]
theorem told_prefix (rows : List (List B8)) (k i : Nat) : told rows k i <+: rows.flatten := by
  by_cases hk : k < rows.length
  · refine ⟨(rows.getD k []).drop i ++ (rows.drop (k + 1)).flatten, ?_⟩
    simp only [told, List.append_assoc]
    rw [← List.append_assoc ((rows.getD k []).take i), List.take_append_drop]
    conv => rhs; rw [← List.take_append_drop k rows]
    rw [List.flatten_append]
    congr 1
    rw [List.drop_eq_getElem_cons hk, List.flatten_cons]
    simp [List.getD_eq_getElem?_getD, hk]
  · refine ⟨[], ?_⟩
    simp only [told, List.append_nil]
    rw [List.take_of_length_le (by omega)]
    simp [List.getD_eq_getElem?_getD, List.getElem?_eq_none (show rows.length ≤ k by omega)]
theorem told_length (rows : List (List B8)) (k i : Nat) (hi : i < (rows.getD k []).length) : (told rows k i).length < rows.flatten.length := by
  have h1 := (told_prefix rows k (i + 1)).length_le
  rw [told_byte rows k i hi] at h1
  simp at h1 ⊢
  omega
set_option maxRecDepth 100000 in
set_option maxHeartbeats 2000000 in
theorem each1_in (n : Nat) (hn : 1 ≤ n) (l Bs n₀ : Nat) (rv : Value) (rows : List (List B8)) (J Jx : List B8 → World → Prop)
    (hY : ∀ pre x W, J pre W → pre.length < rows.flatten.length → YieldAt Fence.wide (n - 1) Try.prog l #[.int .u8 (bn x)] W fun e W' =>
      (e = .returned (.bool true) ∧ J (pre ++ [x]) W' ∧ Below n₀ W W') ∨ (e = .returned (.bool false) ∧ Jx (pre ++ [x]) W'))
    (w0 : World) (hn0 : w0.heap.size = n₀) (hR : Rws w0 rv rows) (W : World) (hw0 : Below n₀ w0 W) (hBs : W.cell? ⟨Bs, 0, none⟩ = some rv) (h0 : J [] W) :
    CallsIn Fence.wide n Try.prog 142 #[.func (.yield l) #[] #[], .pointer (some ⟨Bs, 0, none⟩)] W fun e W' => (∃ v, e = .returned v) ∧
      ((∃ ys, ys = rows.flatten ∧ J ys W') ∨ (∃ pre, pre <+: rows.flatten ∧ Jx pre W')) := by
  subst hn0
  obtain ⟨A, cap, rfl, hlen, hrow⟩ := hR
  have hlen' : rows.length ≤ 9223372036854775807 := by omega
  have HR := Lib.hid hrow
  have HY := Lib.hid hY
  clear hrow hY
  refine callsIn_of_wp Try.func142 rfl trivial ?_ rfl
  simp only [Try.ntmps142, List.size_toArray, List.length_cons, List.length_nil, Nat.reduceAdd, Nat.reduceSub, Array.replicate_succ, Array.replicate_zero, List.push_toArray, List.append_toArray, List.nil_append, List.cons_append]
  gi_wp2
  refine wpInW_scope ?_
  refine wpIn_seq (wpIn_label ?_)
  simp only [Exit.then]
  gi_wp2
  gi_loopw [9] (fun i wr => ∃ k : Nat, k ≤ rows.length ∧ i = .int .i64 k ∧ J (told rows k 0) wr ∧ Below w0.heap.size w0 wr) (fun i _ => rows.length - (intOf i).toNat)
  case atStart => exact ⟨0, Nat.zero_le _, rfl, by rw [told_zero]; exact h0, hw0⟩
  case round =>
    obtain ⟨k, hk, rfl, hJs, hnx⟩ := hrel
    by_cases hlt : k < rows.length
    · obtain ⟨b, off, rfl, hc⟩ := HR.out (by omega)
      obtain ⟨sv, hc1, hb1⟩ := hc k hlt
      have hcx := (hnx.cell (p := ⟨b, off + k, none⟩) (World.block_lt_of_cell? _ _ hc1)).trans hc1
      obtain ⟨A1, cap1, rfl, hl1, hl2, _, hbs⟩ := hb1
      unfold maxLen at hl2
      have HS := Lib.hid hbs
      clear hbs hc hc1
      have hl3 : (rows.getD k []).length ≤ 9223372036854775807 := by omega
      generalize hrk : rows.getD k [] = r at *
      have HRK := Lib.hid hrk
      clear hrk
      have hd : decide (k < rows.length) = true := by simpa using hlt
      gi_wp2
      obtain ⟨wo, rfl⟩ : ∃ wo : World, wo = wr := ⟨_, rfl⟩
      gi_loopw [15, 6] (fun i _ w2 => ∃ j : Nat, j ≤ r.length ∧ i = .int .i64 j ∧ J (told rows k j) w2 ∧ Below w0.heap.size w0 w2) (fun i _ _ => r.length - (intOf i).toNat)
      case atStart => exact ⟨0, Nat.zero_le _, rfl, hJs, hnx⟩
      case round =>
        obtain ⟨j, hj, rfl, hJs2, hnx2⟩ := hrel
        by_cases hlt2 : j < r.length
        · obtain ⟨b1, off1, rfl, hcb⟩ := HS.out (by omega)
          have hcj := hcb j hlt2
          have hcy := (hnx2.cell (p := ⟨b1, off1 + j, none⟩) (World.block_lt_of_cell? _ _ hcj)).trans hcj
          obtain ⟨fn, tmps, assign, body, hy, hRd⟩ := HY.out _ (byteAt r j) wr hJs2 (by have := told_length rows k j (by rw [HRK.out]; exact hlt2); exact this)
          clear hcb hcj
          have hd2 : decide (j < r.length) = true := by simpa using hlt2
          have hnot : ∀ (x : Bool) (w : World), (Op.unary .not (.bool x)).run Try.prog w = .ok (.bool (!x)) w := fun _ _ => rfl
          gi_wp2
          refine hRd.mono ?_
          rintro e W3 (⟨rfl, hJ3, hk3⟩ | ⟨rfl, hJx3⟩)
          · gi_wp2
            go_roundw
            case rel => exact ⟨j + 1, by omega, by go_num, by rw [told_byte rows k j (by rw [HRK.out]; exact hlt2), HRK.out]; exact hJ3, hnx2.trans hk3⟩
            case measure => simp [intOf]; omega
          · gi_wp2
            simp only [Exit.noGoto_normal, Exit.noGoto_ret]
            go_end0
            refine ⟨⟨_, rfl⟩, .inr ⟨_, told_prefix rows k (j + 1), ?_⟩⟩
            rw [told_byte rows k j (by rw [HRK.out]; exact hlt2), HRK.out]
            exact hJx3
        · have hd2 : decide (j < r.length) = false := by simpa using hlt2
          gi_wp2
          go_roundw
          case rel => exact ⟨k + 1, by omega, by go_num, by rw [told_row rows k j hlt (by rw [HRK.out]; omega)]; exact hJs2, hnx2⟩
          case measure => simp [intOf]; omega
    · have hd : decide (k < rows.length) = false := by simpa using hlt
      have hke : k = rows.length := by omega
      have hJe : J rows.flatten wr := by rw [← told_all, ← hke]; exact hJs
      clear hke
      gi_wp2
      simp only [Exit.noGoto_normal, Exit.noGoto_ret]
      go_end0
      exact ⟨⟨_, rfl⟩, .inl ⟨_, rfl, hJe⟩⟩
theorem each_stops (n : Nat) (hn : 1 ≤ n) (Bs n₀ : Nat) (rv : Value) (rows : List (List B8)) (w0 w : World) (hn0 : w0.heap.size = n₀) (hR : Rws w0 rv rows) (hw : Below n₀ w0 w) (hBs : w.cell? ⟨Bs, 0, none⟩ = some rv) :
    SeqStopsK Fence.wide n Try.prog 142 #[.pointer (some ⟨Bs, 0, none⟩)] (fun x : B8 => #[Value.int .u8 (bn x)]) (Below n₀) (fun ys => ys = rows.flatten) (fun pre => pre <+: rows.flatten) rows.flatten.length w := fun l J Jx W hW _ _ hY h0 => by
  have hlt := World.block_lt_of_cell? _ _ hBs
  exact each1_in n hn l Bs n₀ rv rows J Jx hY w0 hn0 hR W (hw.trans (hW.mono (by have := hw.size; omega))) ((hW.cell (p := ⟨Bs, 0, none⟩) hlt).trans hBs) h0
theorem each_calls (n : Nat) (A : Option Addr) (l c : Nat) (w : World) :
    CallsIn Fence.wide n Try.prog 135 #[.slice A l c] w fun e w' => e = .returned (.func (.func 142) #[] #[.pointer (some ⟨w.heap.size, 0, none⟩)]) ∧ w' = w.alloc (.cells #[.slice A l c] 63) := by
  have hmf : ∀ (fn : Fn) (first cap : Array Value) (w : World), (Instr.makeFunc fn first cap).run Try.prog w = .ok (.func fn first cap) w := fun _ _ _ _ => rfl
  refine callsIn_of_wp Try.func135 rfl trivial ?_ rfl
  simp only [Try.ntmps135, List.size_toArray, List.length_cons, List.length_nil, Nat.reduceAdd, Nat.reduceSub, Array.replicate_succ, Array.replicate_zero, List.push_toArray, List.append_toArray, List.nil_append, List.cons_append]
  gi_wp2
  go_ret
  exact ⟨rfl, rfl⟩
def regCells (bt : Nat) (x : W32) : Array Value := #[.pointer (some ⟨bt, 0, none⟩), .int .u32 (nb x)]
theorem of_calls (x : W32) (w : World) : Calls Try.prog 133 #[.int .u32 (nb x)] w fun e w' => e = .returned (.pointer (some ⟨w.heap.size + 1, 0, none⟩)) ∧
    w' = (w.alloc (.cells (tabCells 0 0 0) 190)).alloc (.cells (regCells w.heap.size x) 173) := by
  go_enter Try.func133, Try.ntmps133
  go_wp2
  go_ret
  exact ⟨rfl, rfl⟩
end Go.Proofs.Ytnhmhnejglpijaa
namespace Go.Proofs.Ytnhmhnejglpijaa
open Go.RowKit Go.Shelf
attribute [local go_sem] Oper.semAt_some
def feedAll (x : W32) (l : List B8) : W32 := l.foldl feedByte x
theorem feedAll_snoc (x : W32) (l : List B8) (b : B8) : feedAll x (l ++ [b]) = feedByte (feedAll x l) b := by simp [feedAll]
/-- What holds between two rounds. -/
def MoreI (w0 : World) (x : W32) (pre : List B8) (W : World) : Prop :=
  RegAt W (w0.heap.size + 1) w0.heap.size (feedAll x pre) ∧ TabAt W w0.heap.size ∧
    W.heap[w0.heap.size + 2]? = some (.cells #[.func (.func 134) #[.pointer (some ⟨w0.heap.size + 1, 0, none⟩)] #[]] 167 (0, 0)) ∧ Below w0.heap.size w0 W
theorem MoreI.own (w0 : World) (x : W32) (B : Nat) (hB : w0.heap.size + 2 < B) : OwnFrom B (MoreI w0 x) := by
  intro s W W' row ⟨h1, h2, h3, h4⟩ hg hr
  have hk : ∀ i, i < B → i < W.heap.size → W'.heap[i]? = W.heap[i]? := fun i hi hs => hg.block i hs (fun e => by have := (hr i e.symm).1; omega)
  have l1 := lt_of_heap h1
  have l2 := h2.lt
  have l3 := lt_of_heap h3
  refine ⟨?_, ?_, ?_, h4.grown hg h4.size (fun k e => by have := (hr k e).1; omega)⟩
  · unfold RegAt at *; rw [hk _ (by omega) l1]; exact h1
  · unfold TabAt at *; rw [hk _ (by omega) l2]; exact h2
  · rw [hk _ (by omega) l3]; exact h3
theorem KeepsOthers.of_mod {L : List Nat} {W W' : World} (h : Mod L W W') (hL : ∀ i, i ∈ L → ∃ c t f, W.heap[i]? = some (.cells c t f)) : KeepsOthers W W' :=
  ⟨h.size, fun k o hk ho => by
    refine (h.block k (Array.getElem?_eq_some_iff.1 hk).1 (fun hm => ?_)).trans hk
    obtain ⟨c, t, f, e⟩ := hL k hm
    rw [hk] at e
    cases e
    cases ho⟩
theorem not_nb (x : W32) : bits .xor .u32 IntKind.u32.max (nb x) = nb (~~~x) := by
  have h : IntKind.u32.max = nb (BitVec.allOnes 32) := by decide
  rw [h, bits_xor, BitVec.allOnes_xor]
theorem new_here (w : World) (o : Obj) : (w.alloc o).heap[w.heap.size]? = some o := World.alloc_heap_new w o
theorem new_next (w : World) (o : Obj) {k : Nat} {x : Obj} (h : w.heap[k]? = some x) : (w.alloc o).heap[k]? = some x := (Below.heap_alloc _ _ _ (lt_of_heap h)).trans h
theorem new_four (w : World) (o0 o1 o2 o3 : Obj) : ((((w.alloc o0).alloc o1).alloc o2).alloc o3).heap[w.heap.size]? = some o0 ∧ ((((w.alloc o0).alloc o1).alloc o2).alloc o3).heap[w.heap.size + 1]? = some o1 ∧
    ((((w.alloc o0).alloc o1).alloc o2).alloc o3).heap[w.heap.size + 2]? = some o2 ∧ ((((w.alloc o0).alloc o1).alloc o2).alloc o3).heap[w.heap.size + 3]? = some o3 := by
  have h0 := new_here w o0
  have h1 : ((w.alloc o0).alloc o1).heap[w.heap.size + 1]? = some o1 := by have := new_here (w.alloc o0) o1; rwa [World.size_alloc] at this
  have h2 : (((w.alloc o0).alloc o1).alloc o2).heap[w.heap.size + 2]? = some o2 := by have := new_here ((w.alloc o0).alloc o1) o2; rwa [World.size_alloc, World.size_alloc] at this
  have h3 : ((((w.alloc o0).alloc o1).alloc o2).alloc o3).heap[w.heap.size + 3]? = some o3 := by have := new_here (((w.alloc o0).alloc o1).alloc o2) o3; rwa [World.size_alloc, World.size_alloc, World.size_alloc] at this
  exact ⟨new_next _ _ (new_next _ _ (new_next _ _ h0)), new_next _ _ (new_next _ _ h1), new_next _ _ h2, h3⟩
theorem u32_signed : IntKind.u32.signed = false := rfl
section
attribute [local go_sem] not_nb u32_signed
set_option maxRecDepth 100000 in
set_option maxHeartbeats 400000 in
theorem more_in (n : Nat) (hn : 3 ≤ n) (sum : W32) (rv : Value) (rows : List (List B8)) (w : World) (hR : Rws w rv rows) :
    CallsIn Fence.wide n Try.prog 118 #[.int .u32 (nb sum), rv] w fun e w' => e = .returned (.int .u32 (nb (~~~ (feedAll (~~~ sum) rows.flatten)))) ∧ Below w.heap.size w w' := by
  have hR' := hR
  obtain ⟨A, cap, rfl, hlen, hrow⟩ := hR'
  have HR := Lib.hid hR
  clear hrow hR
  have h1 : 1 ≤ n := by omega
  have hmf : ∀ (fn : Fn) (first cap : Array Value) (w : World), (Instr.makeFunc fn first cap).run Try.prog w = .ok (.func fn first cap) w := fun _ _ _ _ => rfl
  refine callsIn_of_wp_marks Try.func118 rfl trivial ?_ rfl
  simp only [Try.ntmps118, List.size_toArray, List.length_cons, List.length_nil, Nat.reduceAdd, Nat.reduceSub, Array.replicate_succ, Array.replicate_zero, List.push_toArray, List.append_toArray, List.nil_append, List.cons_append]
  gi_wp2_with fail
  refine ⟨trivial, ?_⟩
  refine (callsIn_wide.2 (of_calls _ _)).mono ?_
  rintro e w' ⟨rfl, rfl⟩
  gi_wp2_with (refine ⟨trivial, ?_⟩; gi_at_call 135; refine (each_calls _ _ _ _ _).mono ?_; rintro e w' ⟨rfl, rfl⟩)
  have e0 : w.heap.size + 1 + 1 = w.heap.size + 2 := rfl
  obtain ⟨WB, hWB⟩ : ∃ WB, ((((w.alloc (.cells (tabCells 0 0 0) 190)).alloc (.cells (regCells w.heap.size (~~~sum)) 173)).alloc (.cells #[.func (.func 134) #[.pointer (some ⟨w.heap.size + 1, 0, none⟩)] #[]] 167)).alloc (.cells #[.slice A rows.length cap] 63)) = WB := ⟨_, rfl⟩
  rw [hWB]
  have hsz : WB.heap.size = w.heap.size + 4 := by rw [← hWB]; simp
  have hbw : Below w.heap.size w WB := by rw [← hWB]; exact ((((Below.refl _ w).alloc (Nat.le_refl _) _).alloc (by simp) _).alloc (by simp; omega) _).alloc (by simp; omega) _
  obtain ⟨g0, g1, g2, g3⟩ := new_four w (.cells (tabCells 0 0 0) 190) (.cells (regCells w.heap.size (~~~sum)) 173) (.cells #[.func (.func 134) #[.pointer (some ⟨w.heap.size + 1, 0, none⟩)] #[]] 167) (.cells #[.slice A rows.length cap] 63)
  rw [hWB] at g0 g1 g2 g3
  have hI0 : MoreI w (~~~sum) [] WB := ⟨g1, .inl g0, g2, hbw⟩
  have hbox : WB.cell? ⟨w.heap.size + 3, 0, none⟩ = some (.slice A rows.length cap) := cell_of_heap g3
  clear g0 g1 g2 g3
  clear hWB
  have hseq := each_stops (n - 1) (by omega) (w.heap.size + 3) w.heap.size _ rows w WB rfl HR.out hbw hbox
  refine wpIn_rangeFunc_ownF rfl h1 (gf := 142) (lb := #[.pointer (some ⟨w.heap.size + 3, 0, none⟩)]) rfl trivial (enters_of Try.func142 (by kernel_rfl) rfl)
    hseq belowK_t (belowK_b (by omega)) (Below.refl _ _) (fun _ => rfl) (MoreI w (~~~sum)) (fun _ _ _ => False) (MoreI.own w _ _ (by omega)) (fun _ _ _ _ _ h _ _ => h) hI0
    (fun x => { tmps := #[.int .u32 (nb sum), .slice A rows.length cap, undef, undef, .int .u32 0, .pointer (some ⟨w.heap.size + 1, 0, none⟩), .pointer (some ⟨w.heap.size + 1 + 1, 0, none⟩), .int .u8 (bn x), .int .u32 (nb sum), .int .u32 (nb (~~~sum)),
        .pointer (some ⟨w.heap.size + 1, 0, none⟩), .pointer (some ⟨w.heap.size + 1, 0, none⟩), .func (.func 134) #[.pointer (some ⟨w.heap.size + 1, 0, none⟩)] #[], .slice A rows.length cap, .func (.func 142) #[] #[.pointer (some ⟨w.heap.size + 3, 0, none⟩)], .int .u8 (bn x), undef, undef, undef, undef, undef, undef, undef, undef], defers := [] }) ?assign ?body ?done ?stop
  case assign =>
    intro l x W K hK
    gi_wp2
    exact hK
  case body =>
    rintro l pre x W ⟨h1, h2, h3, h4⟩ _
    have hl := h2.lt
    have hc := cell_of_heap (k := 0) h3
    have hc' : W.cell? ⟨w.heap.size + 1 + 1, 0, none⟩ = some (.func (.func 134) #[.pointer (some ⟨w.heap.size + 1, 0, none⟩)] #[]) := hc
    have hd : 1 ≤ n - 1 - 1 := by omega
    have H1 := Lib.hid h1
    have H2 := Lib.hid h2
    have H3 := Lib.hid h3
    clear h1 h2 h3 hc
    gi_wp2_with (refine ⟨trivial, ?_⟩; gi_at_call 134; refine (CallsIn.inRound l (callsIn_wide.2 (feed_calls (w.heap.size + 1) w.heap.size (by omega) _ x _ H1.out H2.out))).mono ?_; rintro e w' ⟨rfl, hm, hr1, ht1⟩)
    have hl3 := lt_of_heap H3.out
    have hb := hm.below (B := w.heap.size) (by intro i hi; simp at hi; omega) (by omega)
    have h3' : w'.heap[w.heap.size + 2]? = some (.cells #[.func (.func 134) #[.pointer (some ⟨w.heap.size + 1, 0, none⟩)] #[]] 167 (0, 0)) := (hm.block _ hl3 (by simp)).trans H3.out
    refine ⟨KeepsOthers.of_mod hm ?_, hb, ?_, ht1, h3', h4.trans hb⟩
    · intro i hi
      simp only [List.mem_cons, List.not_mem_nil, or_false] at hi
      rcases hi with rfl | rfl
      · exact ⟨_, _, _, H1.out⟩
      · rcases H2.out with h | h <;> exact ⟨_, _, _, h⟩
    · rw [feedAll_snoc]
      exact hr1
  case done =>
    rintro D xs W hD rfl ⟨h1, h2, h3, h4⟩ hK
    have c1 := h1.c1
    gi_wp2
    refine ⟨by simp, .inl ⟨_, _, rfl, run_takeDeferred hK, ?_⟩⟩
    exact ⟨_, results_tmp rfl _ _ _, rfl, h4.trans (belowK_b (w := w) (Nat.le_refl _) W D _ _ (by omega) hK rfl rfl)⟩
  case stop =>
    rintro D c pre W _ _ h _
    exact h.elim
end
/-- the sum of rows, and what is behind a sum -/
def moreW (sum : W32) (l : List B8) : W32 := ~~~ (feedAll (~~~ sum) l)
theorem more_calls (sum : W32) (rv : Value) (rows : List (List B8)) (w : World) (hR : Rws w rv rows) :
    Calls Try.prog 118 #[.int .u32 (nb sum), rv] w fun e w' => e = .returned (.int .u32 (nb (moreW sum rows.flatten))) ∧ Below w.heap.size w w' :=
  (callsIn_wide (n := 3)).1 (more_in 3 (by omega) sum rv rows w hR)
end Go.Proofs.Ytnhmhnejglpijaa
namespace Go.Proofs.Ytnhmhnejglpijaa
open Go.RowKit
def bvals (bs : List B8) : List Value := bs.map fun b => .int .u8 (bn b)
theorem bvals_length (bs : List B8) : (bvals bs).length = bs.length := by simp [bvals]
theorem bvals_append (a b : List B8) : bvals (a ++ b) = bvals a ++ bvals b := by simp [bvals]
theorem bvals_get (bs : List B8) (j : Nat) (h : j < bs.length) : (bvals bs)[j]? = some (.int .u8 (bn (byteAt bs j))) := by simp [bvals, byteAt, h]
theorem bvals_one (bs : List B8) : ∀ u ∈ bvals bs, u.oneCell' = true := by
  intro u hu
  simp only [bvals, List.mem_map] at hu
  obtain ⟨b, _, rfl⟩ := hu
  rfl
theorem bvals_get' {bs : List B8} {j : Nat} {u : Value} (h : (bvals bs)[j]? = some u) : j < bs.length ∧ u = .int .u8 (bn (byteAt bs j)) := by
  have hj : j < bs.length := by have := (List.getElem?_eq_some_iff.1 h).1; rwa [bvals_length] at this
  rw [bvals_get bs j hj] at h
  exact ⟨hj, (Option.some.inj h).symm⟩
/-- The slice v holds the bytes bs, in a block of the call's own (from B on), or is nil. -/
def Own8 (w : World) (B : Nat) (v : Value) (bs : List B8) : Prop := w.ownsRow B 5 1 v bs.length (bvals bs)
theorem add_plain (g j : Nat) : (⟨g, 0, none⟩ : Addr).add j = ⟨g, j, none⟩ := by unfold Addr.add; split <;> simp_all
theorem add_off (g o j : Nat) : (⟨g, o, none⟩ : Addr).add j = ⟨g, o + j, none⟩ := by unfold Addr.add; split <;> simp_all
theorem Own8.bys {w : World} {B : Nat} {v : Value} {bs : List B8} (h : Own8 w B v bs) : Bys w v bs := by
  have hc := fun g => World.ownsRow.cells h (g := g)
  rcases h.2 with ⟨rfl, hn⟩ | ⟨g, cap, cur, rfl, hb, hgg, hnc, hcm, _⟩
  · exact ⟨none, 0, by rw [hn], by omega, by simp [maxLen], fun _ => rfl, fun h => by omega⟩
  · refine ⟨_, cap, rfl, hnc, hcm, (fun h => by cases h), fun _ => ⟨g, 0, rfl, fun j hj => ?_⟩⟩
    have := hc g rfl j _ (bvals_get bs j hj)
    rw [add_plain] at this
    rw [Nat.zero_add]
    exact this
theorem Own8.nil (w : World) (B : Nat) : Own8 w B (.slice none 0 0) [] := World.ownsRow_nil w B 5 1
theorem Own8.lt {w : World} {B : Nat} {v : Value} {bs : List B8} (h : Own8 w B v bs) : ∀ k, v.ownBlock = some k → B ≤ k ∧ k < w.heap.size := World.ownsRow.lt h
theorem Own8.mod {w w' : World} {B : Nat} {v : Value} {bs : List B8} {L : List Nat} (h : Own8 w B v bs) (hm : Mod L w w') (hL : ∀ k, v.ownBlock = some k → k ∉ L) : Own8 w' B v bs := by
  refine ⟨h.1, ?_⟩
  rcases h.2 with hn | ⟨g, cap, cur, rfl, hb, hgg, rest⟩
  · exact .inl hn
  · refine .inr ⟨g, cap, cur, rfl, hb, ?_, rest⟩
    rw [hm.block g (lt_of_heap hgg) (hL g rfl)]
    exact hgg
theorem Own8.alloc {w : World} {B : Nat} {v : Value} {bs : List B8} (h : Own8 w B v bs) (o : Obj) : Own8 (w.alloc o) B v bs := World.ownsRow.alloc h o
theorem Try.info5 : (Try.prog.info? 5).map (fun i => (i.zero, i.size, i.bytes)) = some (some (.int .u8 0), 1, 1) := by kernel_rfl
/-- append of bytes to bytes of the call's own -/
theorem wpList_app8 {w : World} {ops : Array Oper} {rest : List Oper} {o : Oper} {a : Act} {Q : Exit → Act → World → Prop} (hgd : o.guard = none) (s x : Operand)
    (ho : o.op = .call { callee := .builtin .append, args := #[s, x], argTypes := #[34, 34] }) (B : Nat) (v xv : Value) (bs cs : List B8) (hs : a.eval s = v) (hown : Own8 w B v bs) (hx : a.eval x = xv) (hxb : Bys w xv cs)
    (hlen : bs.length + cs.length ≤ 140737488355328) (hbase : B ≤ w.heap.size)
    (h : ∀ v' w', Own8 w' B v' (bs ++ cs) → w.grownBy w' v.ownBlock → (v'.ownBlock = v.ownBlock ∨ v'.ownBlock = some w.heap.size) → wpList Try.prog ops Q rest (a.put o.dst v') w') : wpList Try.prog ops Q (o :: rest) a w := by
  obtain ⟨i0, hi, hz0, hz1, hz2⟩ := info_parts Try.info5
  obtain ⟨A, cap, rfl, hc1, hc2, hc3, hc4⟩ := hxb
  cases A with
  | none =>
    have hcap := hc3 rfl
    subst hcap
    obtain rfl : cs = [] := List.eq_nil_of_length_eq_zero (by omega)
    refine wpList_append_own_none hgd s x 34 ho B 5 i0 1 Try.underlying34 hi v _ _ hs hown hx ?_
    refine h v w (by simpa using hown) ⟨rfl, rfl, rfl, Nat.le_refl _, fun _ _ _ => rfl⟩ (.inl rfl)
  | some ad =>
    refine wpList_append_own_at w hgd s x 34 ho B 5 i0 (.int .u8 0) 1 1 Try.underlying34 hi hz0 hz1 hz2 rfl (by decide) v _ _ hs hown ad cs.length cap (bvals cs) hx (by rw [bvals_length]; omega) ?_ (bvals_one cs) (by unfold maxLen; omega) (by omega) hbase ?_
    · intro j u hu
      obtain ⟨hj, rfl⟩ := bvals_get' hu
      obtain ⟨b, off, e, hc⟩ := hc4 (by omega)
      obtain rfl := Option.some.inj e
      rw [add_off]
      exact hc j hj
    · intro v' w' h1 h2 _ h4
      refine h v' w' ?_ h2 h4
      unfold Own8
      rw [bvals_append, List.length_append]
      exact h1
/-- what is made of zeros is bytes -/
theorem madeCells_bytes (n : Nat) : (madeCells #[.int .u8 0] n).toList = bvals (List.replicate n 0#8) := by
  rw [toList_madeCells_one]
  simp [bvals, bn]
end Go.Proofs.Ytnhmhnejglpijaa
namespace Go.Proofs.Ytnhmhnejglpijaa
open Go.RowKit
/-- one row, in new memory -/
theorem rws_one {w : World} {v : Value} {bs : List B8} (h : Bys w v bs) : Rws (w.alloc (.cells #[v] 34)) (.slice (some ⟨w.heap.size, 0, none⟩) 1 1) [bs] := by
  refine ⟨_, 1, rfl, by simp, fun _ => ⟨_, _, rfl, fun j hj => ?_⟩⟩
  obtain rfl : j = 0 := by simpa using hj
  exact ⟨v, by simp, h.below ((Below.refl _ w).alloc (Nat.le_refl _) _)⟩
theorem sum_calls (A : Option Addr) (l c : Nat) (rows : List (List B8)) (w : World) (hR : Rws w (.slice A l c) rows) :
    Calls Try.prog 96 #[.slice A l c] w fun e w' => e = .returned (.int .u32 (nb (moreW 0 rows.flatten))) ∧ Below w.heap.size w w' := by
  have HR := Lib.hid hR
  clear hR
  go_enter Try.func96, Try.ntmps96
  go_wp2_with (go_at_call 118; refine (more_calls 0#32 _ rows _ HR.out).mono ?_; rintro e w2 ⟨rfl, hb⟩)
  go_ret
  exact ⟨rfl, hb⟩
theorem sum1_calls (v : Value) (bs : List B8) (w W : World) (hw : W = w.alloc (.cells #[v] 34)) (hb : Bys w v bs) :
    Calls Try.prog 96 #[.slice (some ⟨w.heap.size, 0, none⟩) 1 1] W fun e w' => e = .returned (.int .u32 (nb (moreW 0 bs))) ∧ Below W.heap.size W w' := by
  subst hw
  have := sum_calls _ _ _ _ _ (rws_one hb)
  simpa using this
theorem own8_empty (w : World) : Own8 (w.alloc (.cells #[] 5)) w.heap.size (.slice (some ⟨w.heap.size, 0, none⟩) 0 0) [] :=
  World.ownsRow_made w #[] 0 (Nat.le_refl _) (by simp [maxLen]) rfl
/-- slices.Clone: nil, or bytes of its own. -/
theorem clone_calls (v : Value) (bs : List B8) (w : World) (hb : Bys w v bs) (hl : bs.length ≤ 140737488355328) :
    Calls Try.prog 37 #[v] w fun e w' => ∃ v', e = .returned v' ∧ Own8 w' w.heap.size v' bs ∧ Below w.heap.size w w' := by
  have hq : ∀ (w : World) (a : Option Addr) (n c n' c' : Nat), (binOp .eql 34 (.slice a n c) (.slice none n' c')).run Try.prog w = .ok (.bool a.isNone) w := fun w a n c n' c' => Lib.run_eql_slice_nil w _ _ a n c n' c' Try.underlying34
  have hb' := hb
  obtain ⟨A, cap, rfl, hc1, hc2, hc3, hc4⟩ := hb'
  have HB := Lib.hid hb
  clear hb hc4
  cases A with
  | none =>
    have hcap := hc3 rfl
    subst hcap
    obtain rfl : bs = [] := List.eq_nil_of_length_eq_zero (by omega)
    go_enter Try.func37, Try.ntmps37
    go_wp2
    go_ret
    exact ⟨_, rfl, Own8.nil _ _, Below.refl _ _⟩
  | some ad =>
    clear hc3
    go_enter Try.func37, Try.ntmps37
    go_wp2_with (at_builtin; refine wpList_app8 rfl (.tmp 5) (.tmp 6) rfl w.heap.size _ _ [] bs rfl (own8_empty w) rfl (HB.out.below ((Below.refl _ w).alloc (Nat.le_refl _) _)) (by simpa using hl) (by simp) ?_; intro v' w' h1 h2 _)
    go_ret
    exact ⟨_, rfl, h1, ((Below.refl _ w).alloc (Nat.le_refl _) _).grown h2 (by simp) (fun k e => by cases e; exact Nat.le_refl _)⟩
theorem take_snoc8 (l : List B8) (k : Nat) (h : k < l.length) : l.take (k + 1) = l.take k ++ [byteAt l k] := by
  rw [List.take_add_one]
  simp [byteAt, List.getD_eq_getElem?_getD, h]
theorem ret_bool {a b : Bool} (h : a = b) : Ending.returned (.bool a) = .returned (.bool b) := by rw [h]
/-- slices.Equal -/
theorem equal_calls (v1 v2 : Value) (bs cs : List B8) (w : World) (h1 : Bys w v1 bs) (h2 : Bys w v2 cs) :
    Calls Try.prog 16 #[v1, v2] w fun e w' => e = .returned (.bool (decide (bs = cs))) ∧ ∃ n, w' = w.drewN n := by
  obtain ⟨A1, cap1, rfl, ha1, ha2, ha3, ha4⟩ := h1
  obtain ⟨A2, cap2, rfl, hb1, hb2, hb3, hb4⟩ := h2
  unfold maxLen at ha2 hb2
  have HA := Lib.hid ha4
  have HB := Lib.hid hb4
  clear ha3 ha4 hb3 hb4
  by_cases hl : bs.length = cs.length
  · have hq : ((bs.length : Int) != (cs.length : Int)) = false := by simp [hl]
    have HL := Lib.hid hl
    clear hl
    go_enter Try.func16, Try.ntmps16
    go_wp2
    go_loopw [13, 5] (fun i _ wr => ∃ k : Nat, k ≤ bs.length ∧ i = .int .i64 k ∧ Hid (bs.take k = cs.take k) ∧ ∃ n, wr = w.drewN n) (fun i _ _ => bs.length - (intOf i).toNat)
    case atStart => exact ⟨0, Nat.zero_le _, rfl, by simp [Hid], 0, rfl⟩
    case round =>
      obtain ⟨k, hk, rfl, HK, n, rfl⟩ := hrel
      by_cases hlt : k < bs.length
      · have hd : decide (k < bs.length) = true := by simpa using hlt
        have hlt2 : k < cs.length := by have := HL.out; omega
        obtain ⟨b1, o1, rfl, hc1⟩ := HA.out (by omega)
        obtain ⟨b2, o2, rfl, hc2⟩ := HB.out (by omega)
        have hx1 := hc1 k hlt
        have hx2 := hc2 k hlt2
        have i0 : (0 : Int) ≤ (k : Int) := by omega
        have i1 : (k : Int) < (bs.length : Int) := by omega
        have i2 : (k : Int) < (cs.length : Int) := by omega
        clear hc1 hc2
        by_cases he : byteAt bs k = byteAt cs k
        · have heq : (bn (byteAt bs k) != bn (byteAt cs k)) = false := by simp [he]
          have HK2 : Hid (bs.take (k + 1) = cs.take (k + 1)) := by
            show _ = _
            rw [take_snoc8 bs k hlt, take_snoc8 cs k hlt2, HK.out, he]
          clear he
          go_wp2
          go_quiet (fail)
          go_wp2
          go_roundw
          case rel => exact ⟨k + 1, by omega, by go_num, HK2, _, rfl⟩
          case measure => simp [intOf]; omega
        · have heq : (bn (byteAt bs k) != bn (byteAt cs k)) = true := by rw [bne_iff_ne]; exact fun h => he (bn_inj h)
          have hne : decide (bs = cs) = false := decide_eq_false (fun h => he (by rw [h]))
          have HN := Lib.hid hne
          clear he hne
          go_wp2
          go_quiet (fail)
          go_wp2
          go_ret
          first | exact ⟨ret_bool HN.out.symm, _, rfl⟩ | exact ⟨ret_bool HN.out.symm, _, World.drewN_drewN ..⟩
      · have hd : decide (k < bs.length) = false := by simpa using hlt
        have hy : decide (bs = cs) = true := decide_eq_true (by
          have h1 := HK.out
          have h2 := HL.out
          rwa [List.take_of_length_le (by omega), List.take_of_length_le (by omega)] at h1)
        have HN := Lib.hid hy
        clear hy
        go_wp2
        go_ret
        first | exact ⟨ret_bool HN.out.symm, _, rfl⟩ | exact ⟨ret_bool HN.out.symm, _, World.drewN_drewN ..⟩
  · have hq : ((bs.length : Int) != (cs.length : Int)) = true := by rw [bne_iff_ne]; omega
    have hne : decide (bs = cs) = false := decide_eq_false (fun h => hl (by rw [h]))
    rw [hne]
    clear hne hl
    go_enter Try.func16, Try.ntmps16
    go_wp2
    go_ret
    exact ⟨rfl, 0, rfl⟩
end Go.Proofs.Ytnhmhnejglpijaa
