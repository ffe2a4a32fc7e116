/- net: parcels are sent: walks. -/
import Derived.Test.YtnhmhnejglpijaaNn
namespace Go.Proofs.Ytnhmhnejglpijaa
open Go.RowKit
set_option maxRecDepth 100000
set_option linter.unusedSimpArgs false
set_option linter.unusedVariables false
theorem OwnPs.set {w : World} {B b k T : Nat} {c : Array Value} {f : Nat × Nat} {v x : Value} {ps : List Pc} (h : OwnPs w B v ps) (hb : w.heap[b]? = some (.cells c T f)) (h5 : T ≠ 5) (h36 : T ≠ 36) : OwnPs (w.setCell ⟨b, k, none⟩ x) B v ps := by
  refine h.kept (grownBy_set w b k x) (noBytes_of hb h5) ?_
  cases hv : v.ownBlock with
  | none => exact .inl rfl
  | some j =>
    refine .inr fun e => ?_
    cases e
    obtain ⟨_, c', f', hc⟩ := h.type _ hv
    rw [hb] at hc
    cases hc
    exact h36 rfl
def sentAll (ls : List Pc) (s : List Pc × Int) : List Pc × Int := ls.foldl (fun s p => (sentPs s.1 p, sentLost s.1 s.2)) s
theorem sentAll_succ (ls : List Pc) (s : List Pc × Int) (k : Nat) (hk : k < ls.length) : sentAll (ls.take (k + 1)) s = (sentPs (sentAll (ls.take k) s).1 (pcAt ls k), sentLost (sentAll (ls.take k) s).1 (sentAll (ls.take k) s).2) := by
  rw [← take_pc ls k hk]
  simp [sentAll, List.foldl_append]
theorem pcAt_snoc (ps : List Pc) (p : Pc) (k : Nat) (hk : k < (ps ++ [p]).length) : pcAt (ps ++ [p]) k = if k < ps.length then pcAt ps k else p := by
  simp only [List.length_append, List.length_cons, List.length_nil] at hk
  by_cases h : k < ps.length
  · rw [if_pos h]
    simp [pcAt, List.getD_eq_getElem?_getD, List.getElem?_append_left h]
  · rw [if_neg h]
    obtain rfl : k = ps.length := by omega
    simp [pcAt, List.getD_eq_getElem?_getD]
theorem NetOk.sent {ps : List Pc} {lost : Int} {p : Pc} (h : NetOk ps lost) (hp : p.bytes.length ≤ 8192) : NetOk (sentPs ps p) (sentLost ps lost) := by
  by_cases h64 : ps.length < 64
  · rw [sentPs, sentLost, if_pos h64, if_pos h64]
    refine ⟨by rw [List.length_append]; simp; omega, h.l0, h.l62, fun k hk => ?_⟩
    rw [pcAt_snoc _ _ _ hk]
    split
    · exact h.bytes k ‹_›
    · exact hp
  · rw [sentPs, sentLost, if_neg h64, if_neg h64]
    have := h.l0
    have := h.l62
    exact ⟨h.n64, by omega, by omega, h.bytes⟩
theorem NetOk.sentAll {ps ls : List Pc} {lost : Int} (h : NetOk ps lost) (hp : ∀ k, k < ls.length → (pcAt ls k).bytes.length ≤ 8192) : ∀ k, k ≤ ls.length → NetOk (sentAll (ls.take k) (ps, lost)).1 (Ytnhmhnejglpijaa.sentAll (ls.take k) (ps, lost)).2 := by
  intro k
  induction k with
  | zero => intro _; simpa [Ytnhmhnejglpijaa.sentAll] using h
  | succ k ih =>
    intro hk
    rw [sentAll_succ ls _ k (by omega)]
    exact (ih (by omega)).sent (hp k (by omega))
theorem netOk_of {ps : List Pc} {lost : Int} (h : rightB ps lost = true) (h0 : 0 ≤ lost) : NetOk ps lost := ⟨(right_bytes h).1, h0, (right_bytes h).2.1, (right_bytes h).2.2⟩
def sendable (p : Pc) : Bool := mayP p && !p.sp
theorem pred_sendable (w : World) : PredG 64 #[] sendable w := fun W x A c _ _ => sendable_calls x.site A x.bytes.length c x.sp W
theorem e64 (args : Array Value) (w : World) : (callFunc 64 args).run Try.prog w = .ok (.enter 64 args) w := enters_of Try.func64 (by kernel_rfl) rfl args w
theorem e60 (args : Array Value) (w : World) : (callFunc 60 args).run Try.prog w = .ok (.enter 60 args) w := enters_of Try.func60 (by kernel_rfl) rfl args w
/-- the boxes of Send's closure -/
structure SBox (vp vl : Value) (ps ls : List Pc) (lost : Int) (nB lB oB : Nat) (W : World) : Prop where
  n : W.heap[nB]? = some (.cells #[vp, .int .u64 lost] 27 (0, 0))
  l : W.heap[lB]? = some (.cells #[vl] 22 (0, 0))
  o : W.heap[oB]? = some (.cells #[.slice none 0 0, .int .u64 0] 27 (0, 0))
  ps_ : Pcs W vp ps
  ls_ : Pcs W vl ls
theorem SBox.below {vp vl : Value} {ps ls : List Pc} {lost : Int} {nB lB oB : Nat} {W X : World} (h : SBox vp vl ps ls lost nB lB oB W) (hb : Below W.heap.size W X) : SBox vp vl ps ls lost nB lB oB X :=
  ⟨(hb.block _ (lt_of_heap h.n)).trans h.n, (hb.block _ (lt_of_heap h.l)).trans h.l, (hb.block _ (lt_of_heap h.o)).trans h.o, h.ps_.below hb, h.ls_.below hb⟩
theorem sclo_net (vp vl : Value) (ps ls : List Pc) (lost : Int) (nB lB oB : Nat) (W : World) (h : SBox vp vl ps ls lost nB lB oB W) (hr : rightB ps lost = false) :
    Calls Try.prog 60 #[.pointer (some ⟨nB, 0, none⟩), .pointer (some ⟨lB, 0, none⟩), .pointer (some ⟨oB, 0, none⟩)] W fun e w' => e = errP 350 ∧ Below W.heap.size W w' := by
  have c0 : W.cell? ⟨nB, 0, none⟩ = some vp := cell_of_heap h.n
  have c1 : W.cell? ⟨nB, 1, none⟩ = some (.int .u64 lost) := cell_of_heap h.n
  obtain ⟨A, cap, rfl, hl⟩ := h.ps_.len
  have HS := Lib.hid h.ps_
  have HR := Lib.hid hr
  clear h hr
  go_enter Try.func60, Try.ntmps60
  go_wp2_with (go_at_call 61; (with_reducible refine (of_no _ ps _ _ HR.out HS.out).mono ?_); rintro e w1 ⟨rfl, hb⟩)
  exact ⟨rfl, rfl, hb⟩
theorem sclo_arg (vp vl : Value) (ps ls : List Pc) (lost : Int) (nB lB oB : Nat) (W : World) (h : SBox vp vl ps ls lost nB lB oB W) (hr : rightB ps lost = true) (hs : ls.all sendable = false) :
    Calls Try.prog 60 #[.pointer (some ⟨nB, 0, none⟩), .pointer (some ⟨lB, 0, none⟩), .pointer (some ⟨oB, 0, none⟩)] W fun e w' => e = errP 2 ∧ Below W.heap.size W w' := by
  have c0 : W.cell? ⟨nB, 0, none⟩ = some vp := cell_of_heap h.n
  have c1 : W.cell? ⟨nB, 1, none⟩ = some (.int .u64 lost) := cell_of_heap h.n
  obtain ⟨A, cap, rfl, hl⟩ := h.ps_.len
  obtain ⟨A2, cap2, rfl, hl2⟩ := h.ls_.len
  have HX := Lib.hid h
  have HR := Lib.hid hr
  have HS := Lib.hid hs
  clear h hr hs
  go_enter Try.func60, Try.ntmps60
  go_wp2_with (first
    | (go_at_call 61; (with_reducible refine (of_ok _ ps _ _ HR.out HX.out.ps_).mono ?_); rintro e w1 ⟨H, rfl, hh, hb⟩; (have hx1 := HX.out.below hb); (have l0 : w1.cell? ⟨lB, 0, none⟩ = some (.slice A2 ls.length cap2) := cell_of_heap hx1.l))
    | (go_at_call 63; (with_reducible refine (all_calls 64 #[] sendable _ ls _ e64 (pred_sendable _) hx1.ls_).mono ?_); rintro e w2 ⟨rfl, hb2⟩; rw [HS.out])
    | (go_at_call 62; (with_reducible refine (need_no _ _).mono ?_); rintro e w3 ⟨rfl, rfl⟩))
  exact ⟨rfl, rfl, below_tr hb hb2⟩
set_option maxHeartbeats 4000000 in
theorem sclo_ok (vp vl : Value) (ps ls : List Pc) (lost : Int) (nB lB oB : Nat) (W : World) (h : SBox vp vl ps ls lost nB lB oB W) (hr : rightB ps lost = true) (h0 : 0 ≤ lost) (hs : ls.all sendable = true) :
    Calls Try.prog 60 #[.pointer (some ⟨nB, 0, none⟩), .pointer (some ⟨lB, 0, none⟩), .pointer (some ⟨oB, 0, none⟩)] W fun e w' => e = .returned (.tuple #[]) ∧ ∃ wq A c, Below W.heap.size W wq ∧
      OwnPs wq W.heap.size (.slice A (sentAll ls (ps, lost)).1.length c) (sentAll ls (ps, lost)).1 ∧ w' = (wq.setCell ⟨oB, 0, none⟩ (.slice A (sentAll ls (ps, lost)).1.length c)).setCell ⟨oB, 1, none⟩ (.int .u64 (sentAll ls (ps, lost)).2) := by
  have c0 : W.cell? ⟨nB, 0, none⟩ = some vp := cell_of_heap h.n
  have c1 : W.cell? ⟨nB, 1, none⟩ = some (.int .u64 lost) := cell_of_heap h.n
  obtain ⟨A, cap, rfl, hl⟩ := h.ps_.len
  obtain ⟨A2, cap2, rfl, q1, q2, q3⟩ := h.ls_
  unfold maxLen at q2
  have hok := netOk_of hr h0
  have hmay : ∀ k, k < ls.length → (pcAt ls k).bytes.length ≤ 8192 := fun k hk => by
    have := List.all_eq_true.1 hs (pcAt ls k) (by simp [pcAt, List.getD_eq_getElem?_getD, hk])
    simp only [sendable, mayP, mayV, Bool.and_eq_true, decide_eq_true_eq] at this
    exact this.1.2.2
  have HOK := Lib.hid (fun k (hk : k ≤ ls.length) => hok.sentAll hmay k hk)
  have HMAY := Lib.hid hmay
  have HC := Lib.hid q3
  have HX := Lib.hid h
  have HR := Lib.hid hr
  have HS := Lib.hid hs
  clear h hr hs hok hmay q3 h0
  go_enter Try.func60, Try.ntmps60
  go_wp2_with (first
    | (go_at_call 61; (with_reducible refine (of_ok _ ps _ _ HR.out HX.out.ps_).mono ?_); rintro e w1 ⟨H, rfl, hh, hb⟩; (have hx1 := HX.out.below hb); (have l0 : w1.cell? ⟨lB, 0, none⟩ = some (.slice A2 ls.length cap2) := cell_of_heap hx1.l))
    | (go_at_call 63; (with_reducible refine (all_calls 64 #[] sendable _ ls _ e64 (pred_sendable _) hx1.ls_).mono ?_); rintro e w2 ⟨rfl, hb2⟩; rw [HS.out]; (have l2 : w2.cell? ⟨lB, 0, none⟩ = some (.slice A2 ls.length cap2) := cell_of_heap (hx1.below hb2).l))
    | (go_at_call 62; (with_reducible refine (need_ok _ _).mono ?_); rintro e w3 ⟨rfl, rfl⟩))
  have hst : HandR W.heap.size H (sentAll (ls.take 0) (ps, lost)).1 (sentAll (ls.take 0) (ps, lost)).2 [] w2 ∧ Below W.heap.size W w2 := ⟨by simpa [sentAll] using hh.below hb2, below_tr hb hb2⟩
  have HST := Lib.hid hst
  clear hst hh hb hb2 hx1 l0 l2 c0 c1
  go_loopw [13, 5] (fun i _ wr => ∃ k : Nat, k ≤ ls.length ∧ i = .int .i64 k ∧ Hid (HandR W.heap.size H (sentAll (ls.take k) (ps, lost)).1 (sentAll (ls.take k) (ps, lost)).2 [] wr ∧ Below W.heap.size W wr)) (fun i _ _ => ls.length - (intOf i).toNat)
  case atStart => exact ⟨0, Nat.zero_le _, rfl, HST⟩
  case round =>
    obtain ⟨k, hk, rfl, hrel⟩ := hrel
    by_cases hlt : k < ls.length
    · have hd : decide (k < ls.length) = true := by simpa using hlt
      obtain ⟨b, off, rfl, hcell⟩ := HC.out (by omega)
      obtain ⟨A', c', k1, k2, k3, k4⟩ := hcell k hlt
      have hbw := hrel.out.2
      have d1 := (hbw.cell (p := ⟨b, off + k * 3, none⟩) (World.block_lt_of_cell? W _ k1)).trans k1
      have d2 := (hbw.cell (p := ⟨b, off + k * 3 + 1, none⟩) (World.block_lt_of_cell? W _ k2)).trans k2
      have d3 := (hbw.cell (p := ⟨b, off + k * 3 + 2, none⟩) (World.block_lt_of_cell? W _ k3)).trans k3
      have i0 : (0 : Int) ≤ (k : Int) := by omega
      have i1 : (k : Int) < (ls.length : Int) := by omega
      have hsk := sentAll_succ ls (ps, lost) k hlt
      have hok := HOK.out k hk
      have hpl := HMAY.out k hlt
      have hby := k4.below hbw
      generalize pcAt ls k = p at *
      generalize sentAll (ls.take k) (ps, lost) = s at *
      have hb9 : Below wr.heap.size wr (wr.alloc (.cells #[.int .i64 p.site, .slice A' p.bytes.length c', .bool p.sp] 36)) := below_al (Below.refl _ _) _
      have hcall := send_calls W.heap.size H s.1 [] s.2 p (.slice A' p.bytes.length c') _ (hrel.out.1.below hb9) (Nat.le_trans hbw.size hb9.size) (hby.below hb9) (by omega) hok.l0 hok.l62 hok.n64
      have HCALL := Lib.hid hcall
      have HSK := Lib.hid hsk
      have HB9 := Lib.hid (hbw.trans (hb9.mono hbw.size))
      clear hcell k1 k2 k3 k4 hbw hsk hok hpl hby hb9 hcall
      go_wp2_with (go_at_call 66; (with_reducible refine HCALL.out.mono ?_); rintro e w5 ⟨rfl, hr5, hf5⟩)
      have HN : Hid (HandR W.heap.size H (sentAll (ls.take (k + 1)) (ps, lost)).1 (sentAll (ls.take (k + 1)) (ps, lost)).2 [] w5 ∧ Below W.heap.size W w5) := Lib.hid ⟨by rw [HSK.out]; exact hr5, HB9.out.trans hf5.below⟩
      clear hr5 hf5
      go_roundw
      case rel => exact ⟨k + 1, by omega, by go_num, HN⟩
      case measure => simp [intOf]; omega
    · have hd : decide (k < ls.length) = false := by simpa using hlt
      have hk2 : k = ls.length := by omega
      subst hk2
      obtain ⟨hR, hB⟩ := hrel.out
      rw [List.take_length] at hR
      generalize hse : sentAll ls (ps, lost) = s at hR
      have HSE := Lib.hid hse
      clear hse
      obtain ⟨hBH, vp', vt', hh, hp, ht, hne⟩ := hR
      obtain ⟨A5, c5, rfl, _⟩ := hp.shape
      have z0 : wr.cell? ⟨H, 0, none⟩ = some (.slice A5 s.1.length c5) := cell_of_heap hh
      have z1 : wr.cell? ⟨H, 1, none⟩ = some (.int .u64 s.2) := cell_of_heap hh
      have ho := (hB.block _ (lt_of_heap HX.out.o)).trans HX.out.o
      have o0 : wr.cell? ⟨oB, 0, none⟩ = some (.slice none 0 0) := cell_of_heap ho
      have o1 : wr.cell? ⟨oB, 1, none⟩ = some (.int .u64 0) := cell_of_heap ho
      have f0 : wr.frozen? ⟨oB, 0, none⟩ = false := free_of_heap ho
      have f1 : wr.frozen? ⟨oB, 1, none⟩ = false := free_of_heap ho
      have HBB := Lib.hid hB
      have HPP := Lib.hid hp
      clear hh hp ht hne ho hB
      go_wp2
      go_end0
      exact ⟨rfl, wr, A5, c5, HBB.out, by rw [HSE.out]; exact HPP.out, by rw [HSE.out]⟩
/-- What Send comes to: the error, and the net. -/
def sendN (ps : List Pc) (lost : Int) (ls : List Pc) : Int × List Pc × Int :=
  if rightB ps lost = true then (if ls.all sendable = true then (0, (sentAll ls (ps, lost)).1, (sentAll ls (ps, lost)).2) else (2, [], 0)) else (350, [], 0)
theorem heap_set_other {w : World} {b g k : Nat} {o : Obj} {v : Value} (h : w.heap[b]? = some o) (hne : b ≠ g) : (w.setCell ⟨g, k, none⟩ v).heap[b]? = some o :=
  ((grownBy_set w g k v).block b (lt_of_heap h) (fun e => hne (by cases e; rfl))).trans h
/-- the out and the result of Send, and all else, behind tries -/
def SendMid (w : World) (r : Int × List Pc × Int) (e : Ending) (w' : World) : Prop :=
  ∃ A c, e = .returned (.int .i64 r.1) ∧ w'.heap[w.heap.size + 1 + 1 + 1]? = some (.cells #[.slice A r.2.1.length c, .int .u64 r.2.2] 27 (0, 0)) ∧ OwnPs w' w.heap.size (.slice A r.2.1.length c) r.2.1 ∧
    w'.heap[w.heap.size + 1 + 1]? = some (.cells #[.slice none 0 0, .int .u64 0] 27 (0, 0)) ∧ Below w.heap.size w w'
abbrev sendW (w : World) (vp vl : Value) (lost : Int) : World := (((w.alloc (.cells #[vp, .int .u64 lost] 27)).alloc (.cells #[vl] 22)).alloc (.cells #[.slice none 0 0, .int .u64 0] 27)).alloc (.cells #[.slice none 0 0, .int .u64 0] 27)
theorem send_mid (vp vl : Value) (ps ls : List Pc) (lost : Int) (w : World) (hp : Pcs w vp ps) (hl : Pcs w vl ls) (h0 : 0 ≤ lost) :
    Calls Try.prog 59 #[.func (.func 60) #[] #[.pointer (some ⟨w.heap.size, 0, none⟩), .pointer (some ⟨w.heap.size + 1, 0, none⟩), .pointer (some ⟨w.heap.size + 1 + 1 + 1, 0, none⟩)]] (sendW w vp vl lost) (SendMid w (sendN ps lost ls)) := by
  obtain ⟨W4, hW4⟩ : ∃ W4, sendW w vp vl lost = W4 := ⟨_, rfl⟩
  obtain ⟨g0, g1, g2, g3⟩ := new_four w (.cells #[vp, .int .u64 lost] 27) (.cells #[vl] 22) (.cells #[.slice none 0 0, .int .u64 0] 27) (.cells #[.slice none 0 0, .int .u64 0] 27)
  have hz4 : W4.heap.size = w.heap.size + 4 := by rw [← hW4]; simp
  have hb4 : Below w.heap.size w W4 := by rw [← hW4]; exact below_al (below_al (below_al (below_al (Below.refl _ _) _) _) _) _
  rw [show (((w.alloc (.cells #[vp, .int .u64 lost] 27)).alloc (.cells #[vl] 22)).alloc (.cells #[.slice none 0 0, .int .u64 0] 27)).alloc (.cells #[.slice none 0 0, .int .u64 0] 27) = W4 from hW4] at g0 g1 g2 g3
  rw [hW4]
  have hb5 : Below W4.heap.size W4 (W4.alloc (.cells #[.int .i64 0] 28)) := below_al (Below.refl _ _) _
  have hbox : SBox vp vl ps ls lost w.heap.size (w.heap.size + 1) (w.heap.size + 1 + 1 + 1) (W4.alloc (.cells #[.int .i64 0] 28)) := SBox.below ⟨g0, g1, g3, hp.below hb4, hl.below hb4⟩ hb5
  have heb := new_here W4 (.cells #[.int .i64 0] 28)
  have hres : (W4.alloc (.cells #[.int .i64 0] 28)).heap[w.heap.size + 1 + 1]? = some (.cells #[.slice none 0 0, .int .u64 0] 27 (0, 0)) := (hb5.block _ (lt_of_heap g2)).trans g2
  have h45 : Below w.heap.size w (W4.alloc (.cells #[.int .i64 0] 28)) := below_tr hb4 hb5
  generalize hW5 : W4.alloc (.cells #[.int .i64 0] 28) = W5 at *
  have err : ∀ (n : Int), Calls Try.prog 60 #[.pointer (some ⟨w.heap.size, 0, none⟩), .pointer (some ⟨w.heap.size + 1, 0, none⟩), .pointer (some ⟨w.heap.size + 1 + 1 + 1, 0, none⟩)] W5 (fun e w' => e = errP n ∧ Below W5.heap.size W5 w') →
      Calls Try.prog 59 #[.func (.func 60) #[] #[.pointer (some ⟨w.heap.size, 0, none⟩), .pointer (some ⟨w.heap.size + 1, 0, none⟩), .pointer (some ⟨w.heap.size + 1 + 1 + 1, 0, none⟩)]] W4 (SendMid w (n, [], 0)) := by
    intro n hc
    refine (tries_calls 60 _ W4 (fun k w1 => k = n ∧ Below W5.heap.size W5 w1) e60 (by rw [hW5]; exact hc.mono fun e w' ⟨h1, h2⟩ => .inr ⟨n, h1, rfl, h2⟩) (fun k w1 ⟨_, h⟩ => (h.block _ (lt_of_heap heb)).trans heb)).mono ?_
    rintro e w' ⟨k, w1, ⟨rfl, hb⟩, rfl, rfl⟩
    refine ⟨none, 0, rfl, heap_set_other ((hb.block _ (lt_of_heap hbox.o)).trans hbox.o) (by omega), OwnPs.nil _ _, heap_set_other ((hb.block _ (lt_of_heap hres)).trans hres) (by omega), ?_⟩
    exact (below_tr h45 hb).setCell (p := ⟨W4.heap.size, 0, none⟩) hb4.size _
  unfold sendN
  by_cases hr : rightB ps lost = true
  · rw [if_pos hr]
    by_cases hs : ls.all sendable = true
    · rw [if_pos hs]
      have hc := sclo_ok vp vl ps ls lost _ _ _ W5 hbox hr h0 hs
      generalize sentAll ls (ps, lost) = s at *
      refine (tries_calls 60 _ W4 (fun k w1 => k = 0 ∧ ∃ wq A c, Below W5.heap.size W5 wq ∧ OwnPs wq W5.heap.size (.slice A s.1.length c) s.1 ∧ w1 = (wq.setCell ⟨w.heap.size + 1 + 1 + 1, 0, none⟩ (.slice A s.1.length c)).setCell ⟨w.heap.size + 1 + 1 + 1, 1, none⟩ (.int .u64 s.2)) e60 (by rw [hW5]; exact hc.mono fun e w' ⟨h1, h2⟩ => .inl ⟨h1, rfl, h2⟩) ?_).mono ?_
      · rintro k w1 ⟨_, wq, A, c, hb, _, rfl⟩
        exact heap_set_other (heap_set_other ((hb.block _ (lt_of_heap heb)).trans heb) (by omega)) (by omega)
      · rintro e w' ⟨k, w1, ⟨rfl, wq, A, c, hb, ho, rfl⟩, rfl, rfl⟩
        have ho0 := (hb.block _ (lt_of_heap hbox.o)).trans hbox.o
        have ho1 := heap_setCell_same wq (w.heap.size + 1 + 1 + 1) 0 (.slice A s.1.length c) _ _ _ ho0
        have ho2 := heap_setCell_same _ (w.heap.size + 1 + 1 + 1) 1 (.int .u64 s.2) _ _ _ ho1
        simp only [List.setIfInBounds_toArray, List.set_cons_zero, List.set_cons_succ] at ho1 ho2
        have hee := heap_set_other (k := 1) (v := .int .u64 s.2) (heap_set_other (k := 0) (v := .slice A s.1.length c) ((hb.block _ (lt_of_heap heb)).trans heb) (show W4.heap.size ≠ w.heap.size + 1 + 1 + 1 by omega)) (show W4.heap.size ≠ w.heap.size + 1 + 1 + 1 by omega)
        refine ⟨A, c, rfl, heap_set_other ho2 (by omega), ?_, ?_, ?_⟩
        · exact (((ho.set ho0 (by decide) (by decide)).set ho1 (by decide) (by decide)).set hee (by decide) (by decide)).base h45.size
        · exact heap_set_other (heap_set_other (heap_set_other ((hb.block _ (lt_of_heap hres)).trans hres) (by omega)) (by omega)) (by omega)
        · exact (((below_tr h45 hb).setCell (p := ⟨w.heap.size + 1 + 1 + 1, 0, none⟩) (by show w.heap.size ≤ w.heap.size + 1 + 1 + 1; omega) _).setCell (p := ⟨w.heap.size + 1 + 1 + 1, 1, none⟩) (by show w.heap.size ≤ w.heap.size + 1 + 1 + 1; omega) _).setCell (p := ⟨W4.heap.size, 0, none⟩) hb4.size _
    · rw [if_neg hs]
      exact err 2 (sclo_arg vp vl ps ls lost _ _ _ W5 hbox hr (by simpa using hs))
  · rw [if_neg hr]
    exact err 350 (sclo_net vp vl ps ls lost _ _ _ W5 hbox (by simpa using hr))
set_option maxHeartbeats 4000000 in
theorem sendnet_calls (vp vl : Value) (ps ls : List Pc) (lost : Int) (w : World) (hp : Pcs w vp ps) (hl : Pcs w vl ls) (h0 : 0 ≤ lost) :
    Calls Try.prog 13 #[.agg #[vp, .int .u64 lost], vl] w fun e w' => ∃ A c, e = .returned (.tuple #[.agg #[.slice A (sendN ps lost ls).2.1.length c, .int .u64 (sendN ps lost ls).2.2], .int .i64 (sendN ps lost ls).1]) ∧ OwnPs w' w.heap.size (.slice A (sendN ps lost ls).2.1.length c) (sendN ps lost ls).2.1 ∧ Below w.heap.size w w' := by
  have hmf : ∀ (fn : Fn) (first cap : Array Value) (w : World), (Instr.makeFunc fn first cap).run Try.prog w = .ok (.func fn first cap) w := fun _ _ _ _ => rfl
  obtain ⟨A1, c1, rfl, _⟩ := hp.len
  obtain ⟨A2, c2, rfl, _⟩ := hl.len
  have HM := Lib.hid (send_mid _ _ ps ls lost w hp hl h0)
  clear hp hl
  generalize hr : sendN ps lost ls = r at *
  clear hr
  go_enter Try.func13, Try.ntmps13
  go_wp2_with (go_at_call 59; (with_reducible refine HM.out.mono ?_); rintro e w5 ⟨A, c, rfl, ho, hp, hr, hb⟩; (have o0 : w5.cell? ⟨w.heap.size + 1 + 1 + 1, 0, none⟩ = some (.slice A r.2.1.length c) := cell_of_heap ho); (have o1 : w5.cell? ⟨w.heap.size + 1 + 1 + 1, 1, none⟩ = some (.int .u64 r.2.2) := cell_of_heap ho); (have r0 : w5.cell? ⟨w.heap.size + 1 + 1, 0, none⟩ = some (.slice none 0 0) := cell_of_heap hr); (have r1 : w5.cell? ⟨w.heap.size + 1 + 1, 1, none⟩ = some (.int .u64 0) := cell_of_heap hr); (have f0 : w5.frozen? ⟨w.heap.size + 1 + 1, 0, none⟩ = false := free_of_heap hr); (have f1 : w5.frozen? ⟨w.heap.size + 1 + 1, 1, none⟩ = false := free_of_heap hr); (have HPP := Lib.hid hp); (have HBB := Lib.hid hb); (have HRR := Lib.hid hr); clear ho hp hr hb)
  have hr1 := heap_setCell_same w5 (w.heap.size + 1 + 1) 0 (.slice A r.2.1.length c) _ _ _ HRR.out
  simp only [List.setIfInBounds_toArray, List.set_cons_zero, List.set_cons_succ] at hr1
  refine bodyPost_ret (v := .tuple #[.agg #[.slice A r.2.1.length c, .int .u64 r.2.2], .int .i64 r.1]) (by simp [results, Try.results13, go_sem, r0, r1]) rfl ⟨A, c, rfl, (HPP.out.set HRR.out (by decide) (by decide)).set hr1 (by decide) (by decide), ?_⟩
  exact (HBB.out.setCell (p := ⟨w.heap.size + 1 + 1, 0, none⟩) (by show w.heap.size ≤ w.heap.size + 1 + 1; omega) _).setCell (p := ⟨w.heap.size + 1 + 1, 1, none⟩) (by show w.heap.size ≤ w.heap.size + 1 + 1; omega) _
end Go.Proofs.Ytnhmhnejglpijaa
