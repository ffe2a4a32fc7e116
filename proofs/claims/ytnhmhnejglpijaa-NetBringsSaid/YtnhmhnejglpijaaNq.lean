/- net: Do: walks. -/
import Derived.Test.YtnhmhnejglpijaaNp
namespace Go.Proofs.Ytnhmhnejglpijaa
open Go.RowKit
set_option maxRecDepth 100000
set_option linter.unusedSimpArgs false
set_option linter.unusedVariables false
/-- What Do comes to: the error, the net, and what is told. -/
def doN (ps : List Pc) (lost kind at_ bit : Int) (m : W32) : Int × (List Pc × Int × Pc) :=
  if rightB ps lost = true then (if (doesP ps lost [] kind at_ bit m).1 = 0 then (0, (doesP ps lost [] kind at_ bit m).2.1, (doesP ps lost [] kind at_ bit m).2.2.1, toldOf (doesP ps lost [] kind at_ bit m).2.2.2) else ((doesP ps lost [] kind at_ bit m).1, [], 0, ⟨0, [], false⟩)) else (350, [], 0, ⟨0, [], false⟩)
def DoMid (w : World) (r : Int × (List Pc × Int × Pc)) (e : Ending) (w' : World) : Prop :=
  ∃ A c A' c', e = .returned (.int .i64 r.1) ∧ w'.heap[w.heap.size + 4]? = some (.cells #[.slice A r.2.1.length c, .int .u64 r.2.2.1] 27 (0, 0)) ∧ OwnPs w' (w.heap.size + 6) (.slice A r.2.1.length c) r.2.1 ∧
    w'.heap[w.heap.size + 5]? = some (.cells #[.int .i64 r.2.2.2.site, .slice A' r.2.2.2.bytes.length c', .bool r.2.2.2.sp] 36 (0, 0)) ∧ Own8 w' (w.heap.size + 6) (.slice A' r.2.2.2.bytes.length c') r.2.2.2.bytes ∧
    w'.heap[w.heap.size + 2]? = some (.cells #[.slice none 0 0, .int .u64 0] 27 (0, 0)) ∧ w'.heap[w.heap.size + 3]? = some (.cells #[.int .i64 0, .slice none 0 0, .bool false] 36 (0, 0)) ∧ Below w.heap.size w w'
abbrev doW (w : World) (vp : Value) (lost kind at_ bit : Int) (m : W32) : World :=
  (((((w.alloc (.cells #[vp, .int .u64 lost] 27)).alloc (.cells #[.int .i64 kind, .int .i64 at_, .int .i64 bit, .int .u32 (nb m)] 48)).alloc (.cells #[.slice none 0 0, .int .u64 0] 27)).alloc (.cells #[.int .i64 0, .slice none 0 0, .bool false] 36)).alloc (.cells #[.slice none 0 0, .int .u64 0] 27)).alloc (.cells #[.int .i64 0, .slice none 0 0, .bool false] 36)
theorem new_six (w : World) (o0 o1 o2 o3 o4 o5 : Obj) : ∀ W, W = (((((w.alloc o0).alloc o1).alloc o2).alloc o3).alloc o4).alloc o5 → W.heap[w.heap.size]? = some o0 ∧ W.heap[w.heap.size + 1]? = some o1 ∧ W.heap[w.heap.size + 2]? = some o2 ∧ W.heap[w.heap.size + 3]? = some o3 ∧ W.heap[w.heap.size + 4]? = some o4 ∧ W.heap[w.heap.size + 5]? = some o5 := by
  rintro W rfl
  obtain ⟨a, b, c, d⟩ := new_four w o0 o1 o2 o3
  have h4 := new_here ((((w.alloc o0).alloc o1).alloc o2).alloc o3) o4
  have h5 := new_here (((((w.alloc o0).alloc o1).alloc o2).alloc o3).alloc o4) o5
  simp only [World.size_alloc] at h4 h5
  exact ⟨new_next _ _ (new_next _ _ a), new_next _ _ (new_next _ _ b), new_next _ _ (new_next _ _ c), new_next _ _ (new_next _ _ d), new_next _ _ h4, h5⟩
theorem do_mid (vp : Value) (ps : List Pc) (lost kind at_ bit : Int) (m : W32) (w : World) (hp : Pcs w vp ps) (h0 : 0 ≤ lost) :
    Calls Try.prog 59 #[.func (.func 69) #[] #[.pointer (some ⟨w.heap.size, 0, none⟩), .pointer (some ⟨w.heap.size + 1, 0, none⟩), .pointer (some ⟨w.heap.size + 4, 0, none⟩), .pointer (some ⟨w.heap.size + 5, 0, none⟩)]] (doW w vp lost kind at_ bit m) (DoMid w (doN ps lost kind at_ bit m)) := by
  obtain ⟨W4, hW4⟩ : ∃ W4, doW w vp lost kind at_ bit m = W4 := ⟨_, rfl⟩
  obtain ⟨g0, g1, g2, g3, g4, g5⟩ := new_six w _ _ _ _ _ _ W4 hW4.symm
  have hz4 : W4.heap.size = w.heap.size + 6 := by rw [← hW4]; simp
  have hb4 : Below w.heap.size w W4 := by rw [← hW4]; exact below_al (below_al (below_al (below_al (below_al (below_al (Below.refl _ _) _) _) _) _) _) _
  rw [hW4]
  have hb5 : Below W4.heap.size W4 (W4.alloc (.cells #[.int .i64 0] 28)) := below_al (Below.refl _ _) _
  have hbox : DBox vp ps lost kind at_ bit m w.heap.size (w.heap.size + 1) (w.heap.size + 4) (w.heap.size + 5) (W4.alloc (.cells #[.int .i64 0] 28)) := DBox.below ⟨g0, g1, g4, g5, hp.below hb4⟩ hb5
  have heb := new_here W4 (.cells #[.int .i64 0] 28)
  have hr2 := (hb5.block _ (lt_of_heap g2)).trans g2
  have hr3 := (hb5.block _ (lt_of_heap g3)).trans g3
  have h45 : Below w.heap.size w (W4.alloc (.cells #[.int .i64 0] 28)) := below_tr hb4 hb5
  generalize hW5 : W4.alloc (.cells #[.int .i64 0] 28) = W5 at *
  have err : ∀ (n : Int), Calls Try.prog 69 #[.pointer (some ⟨w.heap.size, 0, none⟩), .pointer (some ⟨w.heap.size + 1, 0, none⟩), .pointer (some ⟨w.heap.size + 4, 0, none⟩), .pointer (some ⟨w.heap.size + 5, 0, none⟩)] W5 (fun e w' => e = errP n ∧ Below W5.heap.size W5 w') →
      Calls Try.prog 59 #[.func (.func 69) #[] #[.pointer (some ⟨w.heap.size, 0, none⟩), .pointer (some ⟨w.heap.size + 1, 0, none⟩), .pointer (some ⟨w.heap.size + 4, 0, none⟩), .pointer (some ⟨w.heap.size + 5, 0, none⟩)]] W4 (DoMid w (n, [], 0, ⟨0, [], false⟩)) := by
    intro n hc
    refine (tries_calls 69 _ W4 (fun k w1 => k = n ∧ Below W5.heap.size W5 w1) e69 (by rw [hW5]; exact hc.mono fun e w' ⟨h1, h2⟩ => .inr ⟨n, h1, rfl, h2⟩) (fun k w1 ⟨_, h⟩ => (h.block _ (lt_of_heap heb)).trans heb)).mono ?_
    rintro e w' ⟨k, w1, ⟨rfl, hb⟩, rfl, rfl⟩
    refine ⟨none, 0, none, 0, rfl, heap_set_other ((hb.block _ (lt_of_heap hbox.o)).trans hbox.o) (by omega), OwnPs.nil _ _, heap_set_other ((hb.block _ (lt_of_heap hbox.p)).trans hbox.p) (by omega), Own8.nil _ _, heap_set_other ((hb.block _ (lt_of_heap hr2)).trans hr2) (by omega), heap_set_other ((hb.block _ (lt_of_heap hr3)).trans hr3) (by omega), ?_⟩
    exact (below_tr h45 hb).setCell (p := ⟨W4.heap.size, 0, none⟩) hb4.size _
  unfold doN
  by_cases hr : rightB ps lost = true
  · rw [if_pos hr]
    by_cases hs : (doesP ps lost [] kind at_ bit m).1 = 0
    · rw [if_pos hs]
      have hc := dnet_ok vp ps lost kind at_ bit m _ _ _ _ W5 hbox hr h0 hs
      generalize doesP ps lost [] kind at_ bit m = r at *
      generalize toldOf r.2.2.2 = q at *
      have hle : W4.heap.size < W5.heap.size := lt_of_heap heb
      have hle6 : w.heap.size + 6 ≤ W5.heap.size := by omega
      refine (tries_calls 69 _ W4 (fun k w1 => k = 0 ∧ DOut W5 r.2 (w.heap.size + 4) (w.heap.size + 5) q w1) e69 (by rw [hW5]; exact hc.mono fun e w' ⟨h1, h2⟩ => .inl ⟨h1, rfl, h2⟩) ?_).mono ?_
      · rintro k w1 ⟨_, A, c, bv, _, _, _, _, hm⟩
        exact (hm.block _ (lt_of_heap heb) (by simp; omega)).trans heb
      · rintro e w' ⟨k, w1, ⟨rfl, A, c, bv, h1, h2, h3, h4, hm⟩, rfl, rfl⟩
        have hee := (hm.block _ (lt_of_heap heb) (by simp; omega)).trans heb
        obtain ⟨A', c', rfl⟩ := own8_shape h4
        refine ⟨A, c, A', c', rfl, heap_set_other h1 (by omega), (h2.set hee (by decide) (by decide)).base hle6, heap_set_other h3 (by omega), (h4.keptN (grownBy_set _ _ _ _) (noBytes_of hee (by decide))).base hle6, heap_set_other ((hm.block _ (lt_of_heap hr2) (by simp)).trans hr2) (by omega), heap_set_other ((hm.block _ (lt_of_heap hr3) (by simp)).trans hr3) (by omega), ?_⟩
        exact (h45.trans (hm.below (by simp) (by have := h45.size; exact this))).setCell (p := ⟨W4.heap.size, 0, none⟩) hb4.size _
    · rw [if_neg hs]
      exact err _ (dnet_err vp ps lost kind at_ bit m _ _ _ _ W5 hbox hr h0 hs)
  · rw [if_neg hr]
    exact err 350 (dnet_net vp ps lost kind at_ bit m _ _ _ _ W5 hbox (by simpa using hr))
/-- What Do hands back. -/
def DoRes (w : World) (r : Int × (List Pc × Int × Pc)) (e : Ending) (w' : World) : Prop :=
  ∃ A c A' c', e = .returned (.tuple #[.agg #[.slice A r.2.1.length c, .int .u64 r.2.2.1], .agg #[.int .i64 r.2.2.2.site, .slice A' r.2.2.2.bytes.length c', .bool r.2.2.2.sp], .int .i64 r.1]) ∧
    OwnPs w' w.heap.size (.slice A r.2.1.length c) r.2.1 ∧ Own8 w' w.heap.size (.slice A' r.2.2.2.bytes.length c') r.2.2.2.bytes ∧ Below w.heap.size w w'
set_option maxHeartbeats 4000000 in
theorem do_end {w w5 : World} {a b B : Nat} {r1 : List Pc} {v bv : Value} {bs : List B8} (hp : OwnPs w5 B v r1) (h8 : Own8 w5 B bv bs) (h2 : w5.heap[a]? = some (.cells #[.slice none 0 0, .int .u64 0] 27 (0, 0))) (h3 : w5.heap[b]? = some (.cells #[.int .i64 0, .slice none 0 0, .bool false] 36 (0, 0))) (hb : Below w.heap.size w w5)
    (ha : w.heap.size ≤ a) (hab : w.heap.size ≤ b) (ha2 : a < B) (hb2 : b < B) (hne : b ≠ a) (x0 x1 y0 y1 y2 : Value) (W : World)
    (hW : W = (((((w5.setCell ⟨a, 0, none⟩ x0).setCell ⟨a, 1, none⟩ x1).setCell ⟨b, 0, none⟩ y0).setCell ⟨b, 1, none⟩ y1).setCell ⟨b, 2, none⟩ y2).drew) :
    OwnPs W B v r1 ∧ Own8 W B bv bs ∧ Below w.heap.size w W := by
  subst hW
  have a1 := heap_setCell_same w5 a 0 x0 _ _ _ h2
  have a2 := heap_setCell_same _ a 1 x1 _ _ _ a1
  have b0 := heap_set_other (k := 1) (v := x1) (heap_set_other (k := 0) (v := x0) h3 hne) hne
  have b1 := heap_setCell_same _ b 0 y0 _ _ _ b0
  have b2 := heap_setCell_same _ b 1 y1 _ _ _ b1
  simp only [List.setIfInBounds_toArray, List.set_cons_zero, List.set_cons_succ] at a1 a2 b1 b2
  have s1 := hp.set_lt (k := 0) (x := x0) h2 (by decide) ha2
  have s2 := s1.set_lt (k := 1) (x := x1) a1 (by decide) ha2
  have s3 := s2.set_lt (k := 0) (x := y0) b0 (by decide) hb2
  have s4 := s3.set_lt (k := 1) (x := y1) b1 (by decide) hb2
  have s5 := s4.set_lt (k := 2) (x := y2) b2 (by decide) hb2
  have e1 := h8.keptN (grownBy_set w5 a 0 x0) (noBytes_of h2 (by decide))
  have e2 := e1.keptN (grownBy_set _ a 1 x1) (noBytes_of a1 (by decide))
  have e3 := e2.keptN (grownBy_set _ b 0 y0) (noBytes_of b0 (by decide))
  have e4 := e3.keptN (grownBy_set _ b 1 y1) (noBytes_of b1 (by decide))
  have e5 := e4.keptN (grownBy_set _ b 2 y2) (noBytes_of b2 (by decide))
  refine ⟨?_, e5, ?_⟩
  · exact s5.below (below_dr (Below.refl _ _))
  · exact (((((hb.setCell (p := ⟨a, 0, none⟩) ha _).setCell (p := ⟨a, 1, none⟩) ha _).setCell (p := ⟨b, 0, none⟩) hab _).setCell (p := ⟨b, 1, none⟩) hab _).setCell (p := ⟨b, 2, none⟩) hab _).drew
set_option maxHeartbeats 4000000 in
theorem netdo_calls (vp : Value) (ps : List Pc) (lost kind at_ bit : Int) (m : W32) (w : World) (hp : Pcs w vp ps) (h0 : 0 ≤ lost) :
    Calls Try.prog 23 #[.agg #[vp, .int .u64 lost], trickV kind at_ bit m] w (DoRes w (doN ps lost kind at_ bit m)) := by
  have hmf : ∀ (fn : Fn) (first cap : Array Value) (w : World), (Instr.makeFunc fn first cap).run Try.prog w = .ok (.func fn first cap) w := fun _ _ _ _ => rfl
  obtain ⟨A1, c1, rfl, _⟩ := hp.len
  have HM := Lib.hid (do_mid _ ps lost kind at_ bit m w hp h0)
  clear hp
  generalize hr : doN ps lost kind at_ bit m = r at *
  clear hr
  go_enter Try.func23, Try.ntmps23
  go_wp2_with (go_at_call 59; (with_reducible refine HM.out.mono ?_); rintro e w5 ⟨A, c, A', c', rfl, ho, hp, hpb, hp8, hr2, hr3, hb⟩)
  have o0 : w5.cell? ⟨w.heap.size + 1 + 1 + 1 + 1, 0, none⟩ = some (.slice A r.2.1.length c) := cell_of_heap ho
  have o1 : w5.cell? ⟨w.heap.size + 1 + 1 + 1 + 1, 1, none⟩ = some (.int .u64 r.2.2.1) := cell_of_heap ho
  obtain ⟨⟨p0, p1, p2⟩, _, _, _⟩ := three_cells hpb
  have p0' : w5.cell? ⟨w.heap.size + 1 + 1 + 1 + 1 + 1, 0, none⟩ = some (.int .i64 r.2.2.2.site) := p0
  have p1' : w5.cell? ⟨w.heap.size + 1 + 1 + 1 + 1 + 1, 1, none⟩ = some (.slice A' r.2.2.2.bytes.length c') := p1
  have p2' : w5.cell? ⟨w.heap.size + 1 + 1 + 1 + 1 + 1, 2, none⟩ = some (.bool r.2.2.2.sp) := p2
  have s0 : w5.cell? ⟨w.heap.size + 1 + 1, 0, none⟩ = some (.slice none 0 0) := cell_of_heap hr2
  have s1 : w5.cell? ⟨w.heap.size + 1 + 1, 1, none⟩ = some (.int .u64 0) := cell_of_heap hr2
  have s2 : w5.frozen? ⟨w.heap.size + 1 + 1, 0, none⟩ = false := free_of_heap hr2
  have s3 : w5.frozen? ⟨w.heap.size + 1 + 1, 1, none⟩ = false := free_of_heap hr2
  obtain ⟨⟨u0, u1, u2⟩, v0, v1, v2⟩ := three_cells hr3
  have u0' : w5.cell? ⟨w.heap.size + 1 + 1 + 1, 0, none⟩ = some (.int .i64 0) := u0
  have u1' : w5.cell? ⟨w.heap.size + 1 + 1 + 1, 1, none⟩ = some (.slice none 0 0) := u1
  have u2' : w5.cell? ⟨w.heap.size + 1 + 1 + 1, 2, none⟩ = some (.bool false) := u2
  have v0' : w5.frozen? ⟨w.heap.size + 1 + 1 + 1, 0, none⟩ = false := v0
  have v1' : w5.frozen? ⟨w.heap.size + 1 + 1 + 1, 1, none⟩ = false := v1
  have v2' : w5.frozen? ⟨w.heap.size + 1 + 1 + 1, 2, none⟩ = false := v2
  have HP := Lib.hid hp
  have HP8 := Lib.hid hp8
  have HR2 := Lib.hid hr2
  have HR3 := Lib.hid hr3
  have HBB := Lib.hid hb
  clear p0 p1 p2 u0 u1 u2 v0 v1 v2 ho hp hpb hp8 hr2 hr3 hb
  go_region_law (fail)
  all_goals go_wp2
  all_goals
    refine bodyPost_ret (v := .tuple #[.agg #[.slice A r.2.1.length c, .int .u64 r.2.2.1], .agg #[.int .i64 r.2.2.2.site, .slice A' r.2.2.2.bytes.length c', .bool r.2.2.2.sp], .int .i64 r.1]) (by simp [results, Try.results23, go_sem, s0, s1, u0', u1', u2']) rfl ?_
    have hd := do_end (w := w) (a := w.heap.size + 1 + 1) (b := w.heap.size + 1 + 1 + 1) HP.out HP8.out HR2.out HR3.out HBB.out (by omega) (by omega) (by omega) (by omega) (by omega) (.slice A r.2.1.length c) (.int .u64 r.2.2.1) (.int .i64 r.2.2.2.site) (.slice A' r.2.2.2.bytes.length c') (.bool r.2.2.2.sp) _ rfl
    exact ⟨A, c, A', c', rfl, hd.1.base (by omega), hd.2.1.base (by omega), hd.2.2⟩
end Go.Proofs.Ytnhmhnejglpijaa
