/- net: Do: walks. -/
import Derived.Test.YtnhmhnejglpijaaNo
namespace Go.Proofs.Ytnhmhnejglpijaa
open Go.RowKit
set_option maxRecDepth 100000
set_option linter.unusedSimpArgs false
set_option linter.unusedVariables false
theorem e69 (args : Array Value) (w : World) : (callFunc 69 args).run Try.prog w = .ok (.enter 69 args) w := enters_of Try.func69 (by kernel_rfl) rfl args w
/-- the boxes of Do's closure -/
structure DBox (vp : Value) (ps : List Pc) (lost kind at_ bit : Int) (m : W32) (nB tB oB pB : Nat) (W : World) : Prop where
  n : W.heap[nB]? = some (.cells #[vp, .int .u64 lost] 27 (0, 0))
  t : W.heap[tB]? = some (.cells #[.int .i64 kind, .int .i64 at_, .int .i64 bit, .int .u32 (nb m)] 48 (0, 0))
  o : W.heap[oB]? = some (.cells #[.slice none 0 0, .int .u64 0] 27 (0, 0))
  p : W.heap[pB]? = some (.cells #[.int .i64 0, .slice none 0 0, .bool false] 36 (0, 0))
  ps_ : Pcs W vp ps
theorem DBox.below {vp : Value} {ps : List Pc} {lost kind at_ bit : Int} {m : W32} {nB tB oB pB : Nat} {W X : World} (h : DBox vp ps lost kind at_ bit m nB tB oB pB W) (hb : Below W.heap.size W X) : DBox vp ps lost kind at_ bit m nB tB oB pB X :=
  ⟨(hb.block _ (lt_of_heap h.n)).trans h.n, (hb.block _ (lt_of_heap h.t)).trans h.t, (hb.block _ (lt_of_heap h.o)).trans h.o, (hb.block _ (lt_of_heap h.p)).trans h.p, h.ps_.below hb⟩
theorem dnet_net (vp : Value) (ps : List Pc) (lost kind at_ bit : Int) (m : W32) (nB tB oB pB : Nat) (W : World) (h : DBox vp ps lost kind at_ bit m nB tB oB pB W) (hr : rightB ps lost = false) :
    Calls Try.prog 69 #[.pointer (some ⟨nB, 0, none⟩), .pointer (some ⟨tB, 0, none⟩), .pointer (some ⟨oB, 0, none⟩), .pointer (some ⟨pB, 0, none⟩)] W fun e w' => e = errP 350 ∧ Below W.heap.size W w' := by
  have c0 : W.cell? ⟨nB, 0, none⟩ = some vp := cell_of_heap h.n
  have c1 : W.cell? ⟨nB, 1, none⟩ = some (.int .u64 lost) := cell_of_heap h.n
  obtain ⟨A, cap, rfl, hl⟩ := h.ps_.len
  have HS := Lib.hid h.ps_
  have HR := Lib.hid hr
  clear h hr
  go_enter Try.func69, Try.ntmps69
  go_wp2_with (go_at_call 61; (with_reducible refine (of_no _ ps _ _ HR.out HS.out).mono ?_); rintro e w1 ⟨rfl, hb⟩)
  exact ⟨rfl, rfl, hb⟩
theorem doesP_bound (ps : List Pc) (lost kind at_ bit : Int) (m : W32) : (doesP ps lost [] kind at_ bit m).2.2.2.length ≤ 1 := by
  unfold doesP
  repeat' split
  all_goals simp
/-- what is told: the last one, or none -/
def toldOf (told : List Pc) : Pc := told.foldl (fun _ p => p) ⟨0, [], false⟩
set_option maxHeartbeats 4000000 in
theorem dnet_err (vp : Value) (ps : List Pc) (lost kind at_ bit : Int) (m : W32) (nB tB oB pB : Nat) (W : World) (h : DBox vp ps lost kind at_ bit m nB tB oB pB W) (hr : rightB ps lost = true) (h0 : 0 ≤ lost) (he : (doesP ps lost [] kind at_ bit m).1 ≠ 0) :
    Calls Try.prog 69 #[.pointer (some ⟨nB, 0, none⟩), .pointer (some ⟨tB, 0, none⟩), .pointer (some ⟨oB, 0, none⟩), .pointer (some ⟨pB, 0, none⟩)] W fun e w' => e = errP (doesP ps lost [] kind at_ bit m).1 ∧ Below W.heap.size W w' := by
  have c0 : W.cell? ⟨nB, 0, none⟩ = some vp := cell_of_heap h.n
  have c1 : W.cell? ⟨nB, 1, none⟩ = some (.int .u64 lost) := cell_of_heap h.n
  obtain ⟨A, cap, rfl, hl⟩ := h.ps_.len
  have HX := Lib.hid h
  have HR := Lib.hid hr
  have HOK := Lib.hid (netOk_of hr h0)
  have HD := Lib.hid (fun (B H : Nat) (X : World) (hR : HandR B H ps lost [] X) (hB : B ≤ X.heap.size) => does_calls B H ps [] lost kind at_ bit m X hR hB HOK.out (by simp))
  clear h hr h0
  generalize hrr : doesP ps lost [] kind at_ bit m = r at *
  have he' : (r.1 == 0) = false := by simpa using he
  clear hrr he
  go_enter Try.func69, Try.ntmps69
  go_wp2_with (first
    | (go_at_call 61; (with_reducible refine (of_ok _ ps _ _ HR.out HX.out.ps_).mono ?_); rintro e w1 ⟨H, rfl, hh, hb⟩; (have hx1 := HX.out.below hb); (have t0 : w1.cell? ⟨tB, 0, none⟩ = some (.int .i64 kind) := cell_of_heap hx1.t); (have t1 : w1.cell? ⟨tB, 1, none⟩ = some (.int .i64 at_) := cell_of_heap hx1.t); (have t2 : w1.cell? ⟨tB, 2, none⟩ = some (.int .i64 bit) := cell_of_heap hx1.t); (have t3 : w1.cell? ⟨tB, 3, none⟩ = some (.int .u32 (nb m)) := cell_of_heap hx1.t))
    | (go_at_call 70; (with_reducible refine (HD.out W.heap.size H w1 hh hb.size).mono ?_); rintro e w2 ⟨rfl, hr2, hf2⟩)
    | (go_at_call 62; (with_reducible refine (need_no _ _).mono ?_); rintro e w3 ⟨rfl, rfl⟩))
  exact ⟨rfl, rfl, hb.trans hf2.below⟩
theorem toldOf_succ (l : List Pc) (k : Nat) (hk : k < l.length) : toldOf (l.take (k + 1)) = pcAt l k := by
  rw [← take_pc l k hk]
  simp [toldOf, List.foldl_append]
theorem OwnPs.set_lt {w : World} {B b k : Nat} {c : Array Value} {T : TypeId} {f : Nat × Nat} {v x : Value} {ps : List Pc} (h : OwnPs w B v ps) (hb : w.heap[b]? = some (.cells c T f)) (h5 : T ≠ 5) (hlt : b < B) : OwnPs (w.setCell ⟨b, k, none⟩ x) B v ps := by
  refine h.kept (grownBy_set w b k x) (noBytes_of hb h5) ?_
  cases hv : v.ownBlock with
  | none => exact .inl rfl
  | some j =>
    refine .inr fun e => ?_
    cases e
    have := (h.lt _ hv).1
    omega
theorem own_elem {w : World} {B k c : Nat} {A : Option Addr} {ps : List Pc} (h : OwnPs w B (.slice A ps.length c) ps) (hk : k < ps.length) : ∃ g A' c', A = some ⟨g, 0, none⟩ ∧ w.cell? ⟨g, k * 3, none⟩ = some (.int .i64 (pcAt ps k).site) ∧
    w.cell? ⟨g, k * 3 + 1, none⟩ = some (.slice A' (pcAt ps k).bytes.length c') ∧ w.cell? ⟨g, k * 3 + 2, none⟩ = some (.bool (pcAt ps k).sp) ∧ Own8 w B (.slice A' (pcAt ps k).bytes.length c') (pcAt ps k).bytes := by
  obtain ⟨qs, rfl, hq⟩ := h
  rw [List.length_map] at hk hq
  rcases hq.1.2 with ⟨_, hn⟩ | ⟨g, cap, cur, e, _⟩
  · omega
  · cases e
    obtain ⟨e0, e1, e2⟩ := qcells_get qs k hk
    have hcs := World.ownsRow.cells hq.1 rfl
    have x0 := hcs _ _ e0
    have x1 := hcs _ _ e1
    have x2 := hcs _ _ e2
    rw [add_plain] at x0 x1 x2
    have hb8 := hq.2 qs[k] (List.getElem_mem hk)
    obtain ⟨A', c', he⟩ := own8_shape hb8
    rw [he] at x1 hb8
    rw [pcAt_map qs k hk]
    exact ⟨g, A', c', rfl, x0, x1, x2, hb8⟩
/-- what Do's closure leaves -/
def DOut (W : World) (r : List Pc × Int × List Pc) (oB pB : Nat) (q : Pc) (w' : World) : Prop :=
  ∃ A c bv, w'.heap[oB]? = some (.cells #[.slice A r.1.length c, .int .u64 r.2.1] 27 (0, 0)) ∧ OwnPs w' W.heap.size (.slice A r.1.length c) r.1 ∧
    w'.heap[pB]? = some (.cells #[.int .i64 q.site, bv, .bool q.sp] 36 (0, 0)) ∧ Own8 w' W.heap.size bv q.bytes ∧ Mod [oB, pB] W w'
/-- one round: what is told is the parcel in the box -/
theorem dround {W wr : World} {r : List Pc × Int × List Pc} {oB pB : Nat} {q p : Pc} {bv : Value} (h : DOut W r oB pB q wr) (ho : oB ≠ pB) (hp : pB < W.heap.size) (hbv : Own8 wr W.heap.size bv p.bytes) :
    DOut W r oB pB p ((((wr.alloc (.cells #[.int .i64 p.site, bv, .bool p.sp] 36)).setCell ⟨pB, 0, none⟩ (.int .i64 p.site)).setCell ⟨pB, 1, none⟩ bv).setCell ⟨pB, 2, none⟩ (.bool p.sp)) := by
  obtain ⟨A, c, b0, h1, h2, h3, h4, h5⟩ := h
  have hb : Below wr.heap.size wr (wr.alloc (.cells #[.int .i64 p.site, bv, .bool p.sp] 36)) := below_al (Below.refl _ _) _
  have k1 := (hb.block _ (lt_of_heap h1)).trans h1
  have k3 := (hb.block _ (lt_of_heap h3)).trans h3
  have k2 := h2.below hb
  have k4 := hbv.below hb
  have k5 := h5.alloc (.cells #[.int .i64 p.site, bv, .bool p.sp] 36)
  generalize wr.alloc (.cells #[.int .i64 p.site, bv, .bool p.sp] 36) = X at *
  have m1 := heap_setCell_same X pB 0 (.int .i64 p.site) _ _ _ k3
  have m2 := heap_setCell_same _ pB 1 bv _ _ _ m1
  have m3 := heap_setCell_same _ pB 2 (.bool p.sp) _ _ _ m2
  simp only [List.setIfInBounds_toArray, List.set_cons_zero, List.set_cons_succ] at m1 m2 m3
  refine ⟨A, c, bv, heap_set_other (heap_set_other (heap_set_other k1 ho) ho) ho, ((k2.set_lt k3 (by decide) hp).set_lt m1 (by decide) hp).set_lt m2 (by decide) hp, m3, ?_, ((k5.setCell (p := ⟨pB, 0, none⟩) (by simp) _).setCell (p := ⟨pB, 1, none⟩) (by simp) _).setCell (p := ⟨pB, 2, none⟩) (by simp) _⟩
  exact ((k4.keptN (grownBy_set _ _ _ _) (noBytes_of k3 (by decide))).keptN (grownBy_set _ _ _ _) (noBytes_of m1 (by decide))).keptN (grownBy_set _ _ _ _) (noBytes_of m2 (by decide))
set_option maxHeartbeats 4000000 in
theorem dnet_ok (vp : Value) (ps : List Pc) (lost kind at_ bit : Int) (m : W32) (nB tB oB pB : Nat) (W : World) (h : DBox vp ps lost kind at_ bit m nB tB oB pB W) (hr : rightB ps lost = true) (h0 : 0 ≤ lost) (he : (doesP ps lost [] kind at_ bit m).1 = 0) :
    Calls Try.prog 69 #[.pointer (some ⟨nB, 0, none⟩), .pointer (some ⟨tB, 0, none⟩), .pointer (some ⟨oB, 0, none⟩), .pointer (some ⟨pB, 0, none⟩)] W fun e w' => e = .returned (.tuple #[]) ∧ DOut W (doesP ps lost [] kind at_ bit m).2 oB pB (toldOf (doesP ps lost [] kind at_ bit m).2.2.2) w' := by
  have c0 : W.cell? ⟨nB, 0, none⟩ = some vp := cell_of_heap h.n
  have c1 : W.cell? ⟨nB, 1, none⟩ = some (.int .u64 lost) := cell_of_heap h.n
  obtain ⟨A, cap, rfl, hl⟩ := h.ps_.len
  have HX := Lib.hid h
  have HR := Lib.hid hr
  have HOK := Lib.hid (netOk_of hr h0)
  have HD := Lib.hid (fun (B H : Nat) (X : World) (hR : HandR B H ps lost [] X) (hB : B ≤ X.heap.size) => does_calls B H ps [] lost kind at_ bit m X hR hB HOK.out (by simp))
  have htl := doesP_bound ps lost kind at_ bit m
  have hopne : oB ≠ pB := by
    rintro rfl
    have h1 := h.o
    rw [h.p] at h1
    cases h1
  have HNE := Lib.hid hopne
  have HPL := Lib.hid (lt_of_heap h.p)
  clear h hr h0 hopne
  generalize hrr : doesP ps lost [] kind at_ bit m = r at *
  obtain ⟨rn, rps, rlost, rtold⟩ := r
  simp only at he htl ⊢
  subst he
  have HTL := Lib.hid htl
  clear hrr htl
  go_enter Try.func69, Try.ntmps69
  go_wp2_with (first
    | (go_at_call 61; (with_reducible refine (of_ok _ ps _ _ HR.out HX.out.ps_).mono ?_); rintro e w1 ⟨H, rfl, hh, hb⟩; (have hx1 := HX.out.below hb); (have t0 : w1.cell? ⟨tB, 0, none⟩ = some (.int .i64 kind) := cell_of_heap hx1.t); (have t1 : w1.cell? ⟨tB, 1, none⟩ = some (.int .i64 at_) := cell_of_heap hx1.t); (have t2 : w1.cell? ⟨tB, 2, none⟩ = some (.int .i64 bit) := cell_of_heap hx1.t); (have t3 : w1.cell? ⟨tB, 3, none⟩ = some (.int .u32 (nb m)) := cell_of_heap hx1.t))
    | (go_at_call 70; (with_reducible refine (HD.out W.heap.size H w1 hh hb.size).mono ?_); rintro e w2 ⟨rfl, hr2, hf2⟩)
    | (go_at_call 62; (with_reducible refine (need_ok _ _).mono ?_); rintro e w3 ⟨rfl, rfl⟩; (have hb2 := hb.trans hf2.below); (obtain ⟨hBH, vp', vt', hhd, hp, ht, hne⟩ := hr2); (obtain ⟨A5, c5, rfl, _⟩ := hp.shape); (obtain ⟨A6, c6, rfl, _, _, _⟩ := ht.shape); (have z0 : w2.cell? ⟨H, 0, none⟩ = some (.slice A5 rps.length c5) := cell_of_heap hhd); (have z1 : w2.cell? ⟨H, 1, none⟩ = some (.int .u64 rlost) := cell_of_heap hhd); (have z2 : w2.cell? ⟨H, 2, none⟩ = some (.slice A6 rtold.length c6) := cell_of_heap hhd); (have ho := (hb2.block _ (lt_of_heap HX.out.o)).trans HX.out.o); (have hpp := (hb2.block _ (lt_of_heap HX.out.p)).trans HX.out.p); (have o0 : w2.cell? ⟨oB, 0, none⟩ = some (.slice none 0 0) := cell_of_heap ho); (have o1 : w2.cell? ⟨oB, 1, none⟩ = some (.int .u64 0) := cell_of_heap ho); (have f0 : w2.frozen? ⟨oB, 0, none⟩ = false := free_of_heap ho); (have f1 : w2.frozen? ⟨oB, 1, none⟩ = false := free_of_heap ho); (have hoH : ¬ H = oB := by (have := lt_of_heap HX.out.o; omega)); (have hHo : ¬ oB = H := by omega)))
  have ho1 := heap_setCell_same w2 oB 0 (.slice A5 rps.length c5) _ _ _ ho
  have ho2 := heap_setCell_same _ oB 1 (.int .u64 rlost) _ _ _ ho1
  simp only [List.setIfInBounds_toArray, List.set_cons_zero, List.set_cons_succ] at ho1 ho2
  have hst : DOut W (rps, rlost, rtold) oB pB (toldOf (rtold.take 0)) ((w2.setCell ⟨oB, 0, none⟩ (.slice A5 rps.length c5)).setCell ⟨oB, 1, none⟩ (.int .u64 rlost)) ∧ OwnPs ((w2.setCell ⟨oB, 0, none⟩ (.slice A5 rps.length c5)).setCell ⟨oB, 1, none⟩ (.int .u64 rlost)) W.heap.size (.slice A6 rtold.length c6) rtold :=
    ⟨⟨A5, c5, .slice none 0 0, ho2, (hp.set ho (by decide) (by decide)).set ho1 (by decide) (by decide), heap_set_other (heap_set_other hpp HNE.out.symm) HNE.out.symm, Own8.nil _ _, (((Mod.of_below' hb2).setCell (p := ⟨oB, 0, none⟩) (by simp) _).setCell (p := ⟨oB, 1, none⟩) (by simp) _)⟩, (ht.set ho (by decide) (by decide)).set ho1 (by decide) (by decide)⟩
  have HST := Lib.hid hst
  clear hst ho1 ho2 ho hpp hp ht hne hhd hb2 hf2 hh hb hx1 t0 t1 t2 t3 z0 z1 z2 o0 o1 f0 f1 c0 c1
  go_loopw [26, 7] (fun i _ wr => ∃ k : Nat, k ≤ rtold.length ∧ i = .int .i64 k ∧ Hid (DOut W (rps, rlost, rtold) oB pB (toldOf (rtold.take k)) wr ∧ OwnPs wr W.heap.size (.slice A6 rtold.length c6) rtold)) (fun i _ _ => rtold.length - (intOf i).toNat)
  case atStart => exact ⟨0, Nat.zero_le _, rfl, HST⟩
  case round =>
    obtain ⟨k, hk, rfl, hrel⟩ := hrel
    by_cases hlt : k < rtold.length
    · have hd : decide (k < rtold.length) = true := by simpa using hlt
      obtain ⟨g, A', c', rfl, d1, d2, d3, hb8⟩ := own_elem hrel.out.2 hlt
      have i0 : (0 : Int) ≤ (k : Int) := by omega
      have i1 : (k : Int) < (rtold.length : Int) := by omega
      have hts := toldOf_succ rtold k hlt
      have hkl : Hid ((k : Int) + 1 ≤ 1) := Lib.hid (by have := HTL.out; omega)
      obtain ⟨h1, h2⟩ := hrel.out
      have hb9 : Below wr.heap.size wr (wr.alloc (.cells #[.int .i64 (pcAt rtold k).site, .slice A' (pcAt rtold k).bytes.length c', .bool (pcAt rtold k).sp] 36)) := below_al (Below.refl _ _) _
      have hnew := dround h1 HNE.out HPL.out hb8
      obtain ⟨_, _, bv0, _, _, hpb, _, hmod⟩ := h1
      have hpb9 := (hb9.block _ (lt_of_heap hpb)).trans hpb
      have m1 := heap_setCell_same _ pB 0 (.int .i64 (pcAt rtold k).site) _ _ _ hpb9
      have m2 := heap_setCell_same _ pB 1 (.slice A' (pcAt rtold k).bytes.length c') _ _ _ m1
      simp only [List.setIfInBounds_toArray, List.set_cons_zero, List.set_cons_succ] at m1 m2
      have hown := (((h2.below hb9).set_lt (k := 0) (x := .int .i64 (pcAt rtold k).site) hpb9 (by decide) HPL.out).set_lt (k := 1) (x := .slice A' (pcAt rtold k).bytes.length c') m1 (by decide) HPL.out).set_lt (k := 2) (x := .bool (pcAt rtold k).sp) m2 (by decide) HPL.out
      have HNEW : Hid (DOut W (rps, rlost, rtold) oB pB (toldOf (rtold.take (k + 1))) _ ∧ OwnPs _ W.heap.size (.slice (some ⟨g, 0, none⟩) rtold.length c6) rtold) := Lib.hid ⟨by rw [hts]; exact hnew, hown⟩
      obtain ⟨⟨p0, p1, p2⟩, g0, g1, g2⟩ := three_cells hpb9
      generalize pcAt rtold k = p at *
      clear hnew hown m1 m2 hpb9 hpb hb9 h2 hb8 hmod hts
      go_wp2
      go_roundw
      case rel => exact ⟨k + 1, by omega, by go_num, HNEW⟩
      case measure => simp [intOf]; omega
    · have hd : decide (k < rtold.length) = false := by simpa using hlt
      have hk2 : k = rtold.length := by omega
      subst hk2
      have hfin := hrel.out.1
      rw [List.take_length] at hfin
      have HFIN := Lib.hid hfin
      clear hfin
      go_wp2
      go_end0
      exact ⟨rfl, HFIN.out⟩
end Go.Proofs.Ytnhmhnejglpijaa
