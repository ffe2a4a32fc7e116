/- net: Run: walks. -/
import Derived.Test.YtnhmhnejglpijaaNr
namespace Go.Proofs.Ytnhmhnejglpijaa
open Go.RowKit
set_option maxRecDepth 100000
set_option linter.unusedSimpArgs false
set_option linter.unusedVariables false
/-- a trick -/
structure Tk where
  kind : Int
  at_ : Int
  bit : Int
  mask : W32
instance : Inhabited Tk := ⟨⟨0, 0, 0, 0#32⟩⟩
def tkAt (ts : List Tk) (j : Nat) : Tk := ts.getD j default
/-- The slice v holds tricks. -/
def Tks (w : World) (v : Value) (ts : List Tk) : Prop :=
  ∃ A cap, v = .slice A ts.length cap ∧ ts.length ≤ cap ∧ cap ≤ maxLen ∧ (0 < ts.length → ∃ b off, A = some ⟨b, off, none⟩ ∧ ∀ j, j < ts.length →
    w.cell? ⟨b, off + j * 4, none⟩ = some (.int .i64 (tkAt ts j).kind) ∧ w.cell? ⟨b, off + j * 4 + 1, none⟩ = some (.int .i64 (tkAt ts j).at_) ∧
    w.cell? ⟨b, off + j * 4 + 2, none⟩ = some (.int .i64 (tkAt ts j).bit) ∧ w.cell? ⟨b, off + j * 4 + 3, none⟩ = some (.int .u32 (nb (tkAt ts j).mask)))
theorem Tks.below {w w' : World} {v : Value} {ts : List Tk} (h : Tks w v ts) (hb : Below w.heap.size w w') : Tks w' v ts := by
  obtain ⟨A, cap, e, h1, h2, h3⟩ := h
  refine ⟨A, cap, e, h1, h2, fun h0 => ?_⟩
  obtain ⟨b, off, eA, hc⟩ := h3 h0
  refine ⟨b, off, eA, fun j hj => ?_⟩
  obtain ⟨k1, k2, k3, k4⟩ := hc j hj
  exact ⟨(hb.cell (p := ⟨b, off + j * 4, none⟩) (World.block_lt_of_cell? w _ k1)).trans k1, (hb.cell (p := ⟨b, off + j * 4 + 1, none⟩) (World.block_lt_of_cell? w _ k2)).trans k2,
    (hb.cell (p := ⟨b, off + j * 4 + 2, none⟩) (World.block_lt_of_cell? w _ k3)).trans k3, (hb.cell (p := ⟨b, off + j * 4 + 3, none⟩) (World.block_lt_of_cell? w _ k4)).trans k4⟩
/-- a net, what has arrived, and how many tricks went wrong -/
structure RS where
  ps : List Pc
  lost : Int
  told : List Pc
  over : Int
def runStep (s : RS) (t : Tk) : RS :=
  ⟨(doesP s.ps s.lost s.told t.kind t.at_ t.bit t.mask).2.1, (doesP s.ps s.lost s.told t.kind t.at_ t.bit t.mask).2.2.1, (doesP s.ps s.lost s.told t.kind t.at_ t.bit t.mask).2.2.2,
    if (doesP s.ps s.lost s.told t.kind t.at_ t.bit t.mask).1 = 0 then s.over else s.over + 1⟩
def runAll (ts : List Tk) (s : RS) : RS := ts.foldl runStep s
theorem tk_take (ts : List Tk) (k : Nat) (hk : k < ts.length) : ts.take k ++ [tkAt ts k] = ts.take (k + 1) := by
  rw [List.take_succ_eq_append_getElem hk]
  simp [tkAt, List.getD_eq_getElem?_getD, hk]
theorem runAll_succ (ts : List Tk) (s : RS) (k : Nat) (hk : k < ts.length) : runAll (ts.take (k + 1)) s = runStep (runAll (ts.take k) s) (tkAt ts k) := by
  rw [← tk_take ts k hk]
  simp [runAll, List.foldl_append]
theorem pcAt_mem {ps : List Pc} {k : Nat} (hk : k < ps.length) : pcAt ps k ∈ ps := by simp [pcAt, List.getD_eq_getElem?_getD, hk]
theorem mem_pcAt {ps : List Pc} {p : Pc} (h : p ∈ ps) : ∃ k, k < ps.length ∧ pcAt ps k = p := by
  obtain ⟨k, hk, rfl⟩ := List.getElem_of_mem h
  exact ⟨k, hk, by simp [pcAt, List.getD_eq_getElem?_getD, hk]⟩
theorem NetOk.of_mem {ps qs : List Pc} {lost : Int} (h : NetOk ps lost) (hn : qs.length ≤ 64) (hm : ∀ q, q ∈ qs → q ∈ ps) : NetOk qs lost :=
  ⟨hn, h.l0, h.l62, fun k hk => by
    obtain ⟨j, hj, e⟩ := mem_pcAt (hm _ (pcAt_mem hk))
    rw [← e]
    exact h.bytes j hj⟩
theorem spoilI_length {bs l : List B8} {b : Int} {m : W32} (h : spoilI bs b m = some l) : l.length = bs.length := by
  unfold spoilI at h
  split at h
  · unfold spoilW at h
    split at h
    · cases h
      exact spoilK_length ..
    · cases h
  · cases h
theorem NetOk.does {ps told : List Pc} {lost : Int} (h : NetOk ps lost) (kind at_ bit : Int) (m : W32) : NetOk (doesP ps lost told kind at_ bit m).2.1 (doesP ps lost told kind at_ bit m).2.2.1 := by
  unfold doesP
  split
  · split
    · rename_i ha
      obtain ⟨k, rfl⟩ := Int.eq_ofNat_of_zero_le ha.1
      have hk : k < ps.length := by omega
      simp only [Int.toNat_natCast]
      have her : NetOk (ps.eraseIdx k) lost := h.of_mem (by rw [List.length_eraseIdx]; have := h.n64; split <;> omega) (fun q hq => List.mem_of_mem_eraseIdx hq)
      split
      · exact her
      · split
        · exact her
        · split
          · exact h.sent (h.bytes k hk)
          · split
            · exact h
            · split
              · exact h
              · rename_i l hl
                refine ⟨by rw [List.length_set]; exact h.n64, h.l0, h.l62, fun j hj => ?_⟩
                rw [List.length_set] at hj
                have := h.bytes j hj
                by_cases e : k = j
                · subst e
                  have e2 : pcAt (ps.set k ⟨(pcAt ps k).site, l, true⟩) k = ⟨(pcAt ps k).site, l, true⟩ := by simp [pcAt, List.getD_eq_getElem?_getD, hk]
                  rw [e2]
                  show l.length ≤ 8192
                  rw [spoilI_length hl]
                  exact this
                · have e2 : pcAt (ps.set k ⟨(pcAt ps k).site, l, true⟩) j = pcAt ps j := by simp [pcAt, List.getD_eq_getElem?_getD, List.getElem?_set, e]
                  rw [e2]
                  exact this
    · exact h
  · exact h
theorem does_told {ps told : List Pc} {lost : Int} (kind at_ bit : Int) (m : W32) : (doesP ps lost told kind at_ bit m).2.2.2.length ≤ told.length + 1 := by
  unfold doesP
  repeat' split
  all_goals simp
theorem runAll_ok {ps : List Pc} {lost : Int} (h : NetOk ps lost) (ts : List Tk) : ∀ k, k ≤ ts.length → NetOk (runAll (ts.take k) ⟨ps, lost, [], 0⟩).ps (runAll (ts.take k) ⟨ps, lost, [], 0⟩).lost ∧
    (runAll (ts.take k) ⟨ps, lost, [], 0⟩).told.length ≤ k ∧ 0 ≤ (runAll (ts.take k) ⟨ps, lost, [], 0⟩).over ∧ (runAll (ts.take k) ⟨ps, lost, [], 0⟩).over ≤ k := by
  intro k
  induction k with
  | zero => intro _; simp [runAll]; exact h
  | succ k ih =>
    intro hk
    obtain ⟨h1, h2, h3, h4⟩ := ih (by omega)
    rw [runAll_succ ts _ k (by omega)]
    refine ⟨h1.does _ _ _ _, ?_, ?_, ?_⟩
    · have := does_told (ps := (runAll (ts.take k) ⟨ps, lost, [], 0⟩).ps) (told := (runAll (ts.take k) ⟨ps, lost, [], 0⟩).told) (lost := (runAll (ts.take k) ⟨ps, lost, [], 0⟩).lost) (tkAt ts k).kind (tkAt ts k).at_ (tkAt ts k).bit (tkAt ts k).mask
      simp only [runStep]
      omega
    · simp only [runStep]
      split <;> omega
    · simp only [runStep]
      split <;> omega
theorem e74 (args : Array Value) (w : World) : (callFunc 74 args).run Try.prog w = .ok (.enter 74 args) w := enters_of Try.func74 (by kernel_rfl) rfl args w
theorem HandR.set {B H b k T : Nat} {ps told : List Pc} {lost : Int} {W : World} {c : Array Value} {f : Nat × Nat} {x : Value} (h : HandR B H ps lost told W) (hb : W.heap[b]? = some (.cells c T f)) (h5 : T ≠ 5) (h36 : T ≠ 36) (h104 : T ≠ 104) : HandR B H ps lost told (W.setCell ⟨b, k, none⟩ x) := by
  obtain ⟨hBH, vp, vt, hh, hp, ht, hne⟩ := h
  refine ⟨hBH, vp, vt, heap_set_other hh ?_, hp.set hb h5 h36, ht.set hb h5 h36, hne⟩
  rintro rfl
  rw [hh] at hb
  cases hb
  exact h104 rfl
/-- What Run comes to. -/
def runN (ps : List Pc) (lost : Int) (ts : List Tk) : Int × RS :=
  if rightB ps lost = true then (0, runAll ts ⟨ps, lost, [], 0⟩) else (350, ⟨[], 0, [], 0⟩)
abbrev runW (w : World) (vp : Value) (lost : Int) : World := ((w.alloc (.cells #[vp, .int .u64 lost] 27)).alloc (.cells #[.slice none 0 0, .int .u64 0] 27)).alloc (.cells #[.pointer none] 98)
theorem rclo_calls (vp : Value) (ps : List Pc) (lost : Int) (nB hB : Nat) (W : World) (hn : W.heap[nB]? = some (.cells #[vp, .int .u64 lost] 27 (0, 0))) (hh : W.heap[hB]? = some (.cells #[.pointer none] 98 (0, 0))) (hp : Pcs W vp ps) (hr : rightB ps lost = true) :
    Calls Try.prog 74 #[.pointer (some ⟨nB, 0, none⟩), .pointer (some ⟨hB, 0, none⟩)] W fun e w' => e = .returned (.tuple #[]) ∧ ∃ wq H, HandR W.heap.size H ps lost [] wq ∧ Below W.heap.size W wq ∧ w' = wq.setCell ⟨hB, 0, none⟩ (.pointer (some ⟨H, 0, none⟩)) := by
  have c0 : W.cell? ⟨nB, 0, none⟩ = some vp := cell_of_heap hn
  have c1 : W.cell? ⟨nB, 1, none⟩ = some (.int .u64 lost) := cell_of_heap hn
  obtain ⟨A, cap, rfl, hl⟩ := hp.len
  have HS := Lib.hid hp
  have HR := Lib.hid hr
  have HH := Lib.hid hh
  clear hp hr hh hn
  go_enter Try.func74, Try.ntmps74
  go_wp2_with (go_at_call 61; (with_reducible refine (of_ok _ ps _ _ HR.out HS.out).mono ?_); rintro e w1 ⟨H, rfl, hh, hb⟩; (have hx := (hb.block _ (lt_of_heap HH.out)).trans HH.out); (have h0 : w1.cell? ⟨hB, 0, none⟩ = some (.pointer none) := cell_of_heap hx); (have f0 : w1.frozen? ⟨hB, 0, none⟩ = false := free_of_heap hx); (have HHH := Lib.hid hh); (have HBB := Lib.hid hb); clear hh hb hx)
  go_end0
  exact ⟨rfl, w1, H, HHH.out, HBB.out, rfl⟩
theorem rclo_no (vp : Value) (ps : List Pc) (lost : Int) (nB hB : Nat) (W : World) (hn : W.heap[nB]? = some (.cells #[vp, .int .u64 lost] 27 (0, 0))) (hp : Pcs W vp ps) (hr : rightB ps lost = false) :
    Calls Try.prog 74 #[.pointer (some ⟨nB, 0, none⟩), .pointer (some ⟨hB, 0, none⟩)] W fun e w' => e = errP 350 ∧ Below W.heap.size W w' := by
  have c0 : W.cell? ⟨nB, 0, none⟩ = some vp := cell_of_heap hn
  have c1 : W.cell? ⟨nB, 1, none⟩ = some (.int .u64 lost) := cell_of_heap hn
  obtain ⟨A, cap, rfl, hl⟩ := hp.len
  have HS := Lib.hid hp
  have HR := Lib.hid hr
  clear hp hr hn
  go_enter Try.func74, Try.ntmps74
  go_wp2_with (go_at_call 61; (with_reducible refine (of_no _ ps _ _ HR.out HS.out).mono ?_); rintro e w1 ⟨rfl, hb⟩)
  exact ⟨rfl, rfl, hb⟩
end Go.Proofs.Ytnhmhnejglpijaa
