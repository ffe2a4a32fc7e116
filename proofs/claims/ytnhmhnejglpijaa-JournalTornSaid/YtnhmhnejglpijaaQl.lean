/- journal: a scanner's next: the walk. -/
import Derived.Test.YtnhmhnejglpijaaQk
namespace Go.Proofs.Ytnhmhnejglpijaa
open Go.RowKit
set_option maxRecDepth 100000
set_option linter.unusedSimpArgs false
set_option linter.unusedVariables false
theorem Bt.take {w : World} {A : Option Addr} {n c : Nat} {bs : List B8} (h : Bt w (.slice A n c) bs) (m : Nat) (hm : m ≤ n) : Bt w (.slice A m c) (bs.take m) := by
  refine ⟨h.1.take m hm, fun b off n' c' e h0 => ?_⟩
  cases e
  refine h.2 b off _ _ rfl ?_
  rw [List.length_take] at h0
  omega
theorem Bt.drop {w : World} {b off n c : Nat} {bs : List B8} (h : Bt w (.slice (some ⟨b, off, none⟩) n c) bs) (m k c' : Nat) (hm : m + k = n) (hc : c' = c - m) : Bt w (.slice (some ⟨b, off + m, none⟩) k c') (bs.drop m) := by
  refine ⟨h.1.drop m k c' hm hc, fun b' off' n' c'' e h0 => ?_⟩
  cases e
  refine h.2 b off _ _ rfl ?_
  rw [List.length_drop] at h0
  omega
theorem bt_zero {w : World} {A : Option Addr} {c : Nat} (hc : A = none → c = 0) (hm : c ≤ maxLen) : Bt w (.slice A 0 c) [] :=
  ⟨⟨A, c, rfl, Nat.zero_le _, hm, hc, fun h => by simp at h⟩, fun b off n' c' e h0 => by simp at h0⟩
theorem firstW_err {bs : List B8} {n : Int} (hf : firstW bs = .error n) : n ≠ 0 := by
  rintro rfl
  unfold firstW at hf
  split at hf
  · cases hf
  · split at hf
    · cases hf
    · split at hf
      · cases hf
      · split at hf <;> cases hf
/-- a load that the region's tactic is to leave where it comes up -/
def ldo (t : TypeId) (k : Nat) : Op := .load t (.tmp k)
theorem ldo_eq (t : TypeId) (k : Nat) : ldo t k = .load t (.tmp k) := rfl
def NextE (w : World) (sB : Nat) (bs : List B8) (at_ : Nat) (r : Out (List B8)) (e : Ending) (w' : World) : Prop :=
  match r with
  | .ok h => ∃ A c A2 c2, e = .returned (.tuple #[.agg #[.slice A h.length c, .int .i64 ((h.length : Int) + 8)], .bool true]) ∧ Bt w' (.slice A h.length c) h ∧
      w'.heap[sB]? = some (.cells #[.slice A2 (bs.length - (h.length + 8)) c2, .int .i64 ((at_ : Int) + ((h.length : Int) + 8))] 150 (0, 0)) ∧ Bt w' (.slice A2 (bs.length - (h.length + 8)) c2) (bs.drop (h.length + 8)) ∧ w.grownBy w' (some sB)
  | .error _ => e = .returned (.tuple #[.agg #[.slice none 0 0, .int .i64 0], .bool false]) ∧ Below w.heap.size w w'
set_option maxHeartbeats 2000000 in
theorem next_no (sB at_ : Nat) (v : Value) (bs : List B8) (n0 : Int) (hn0 : n0 ≠ 0) (w : World) (hs : w.heap[sB]? = some (.cells #[v, .int .i64 at_] 150 (0, 0))) (hb : Bt w v bs) (hl : bs.length ≤ 1099511627776) (hf : firstW bs = .error n0) :
    Calls Try.prog 115 #[.pointer (some ⟨sB, 0, none⟩)] w fun e w' => e = .returned (.tuple #[.agg #[.slice none 0 0, .int .i64 0], .bool false]) ∧ Below w.heap.size w w' := by
  have hmf : ∀ (fn : Fn) (first cap : Array Value) (w : World), (Instr.makeFunc fn first cap).run Try.prog w = .ok (.func fn first cap) w := fun _ _ _ _ => rfl
  have hd : (n0 != 0) = true := by simpa using hn0
  have HB := Lib.hid (below_al (below_al (Below.refl _ w) (.cells #[.pointer (some ⟨sB, 0, none⟩)] 146)) (.cells #[.slice none 0 0, .int .i64 0] 121))
  have HP : Hid (∀ X, X = (((w.alloc (.cells #[.pointer (some ⟨sB, 0, none⟩)] 146)).alloc (.cells #[.slice none 0 0, .int .i64 0] 121)).alloc (.cells #[.slice none 0 0, .int .i64 0] 121)).alloc (.cells #[.int .i64 0] 28) → Calls Try.prog 127 #[.pointer (some ⟨w.heap.size, 0, none⟩)] X (FoundE X (firstW bs))) := Lib.hid (by
    rintro X rfl
    have hbX := below_al (below_al HB.out (.cells #[.slice none 0 0, .int .i64 0] 121)) (.cells #[.int .i64 0] 28)
    exact next1_calls _ sB v bs _ (cell_of_heap (new_next _ _ (new_next _ _ (new_next _ _ (new_here w _))))) (cell_of_heap ((hbX.block _ (lt_of_heap hs)).trans hs)) (hb.1.below hbX) hl)
  rw [hf] at HP
  have HR0 := Lib.hid (by have := new_here (w.alloc (.cells #[.pointer (some ⟨sB, 0, none⟩)] 146)) (.cells #[.slice none 0 0, .int .i64 0] 121); rwa [World.size_alloc] at this)
  clear hs hb hl hf hn0
  have HT : Hid (∀ w', TriedE w' (.error n0) = fun e W => Below w'.heap.size w' W ∧ ∃ A c, e = .returned (.tuple #[.agg #[.slice A 0 c, .int .i64 0], .int .i64 n0]) ∧ Bt W (.slice A 0 c) []) := Lib.hid (fun w' => rfl)
  go_enter Try.func115, Try.ntmps115
  go_wp2_with (go_at_call 90; refine (tries90_calls 127 _ _ _ e127 HP.out).mono ?_; rw [HT.out]; rintro e w1 ⟨hb1, A1, c1, rfl, ho1⟩; (have hr1 := (hb1.block _ (lt_of_heap HR0.out)).trans HR0.out); (have hr2 := new_next w1 (.cells #[.slice A1 0 c1, .int .i64 0] 121) hr1); (have x0 : _ = some (Value.slice none 0 0) := cell_of_heap (k := 0) hr2); (have x1 : _ = some (Value.int .i64 0) := cell_of_heap (k := 1) hr2); (have f0 := free_of_heap (k := 0) hr2); (have f1 := free_of_heap (k := 1) hr2); (have hr3 := heap_setCell_same _ _ 0 (.slice none 0 0) _ _ _ hr2); (have x2 : _ = some (Value.int .i64 0) := cell_of_heap (k := 1) hr3); (have f2 := free_of_heap (k := 1) hr3); (have HB1 := Lib.hid (below_tr HB.out hb1)); (have HR2 := Lib.hid hr2); (clear hr1 hr2 hr3 hb1 ho1))
  obtain ⟨k1, _⟩ := found_end (S := .slice none 0 0) (s := 0) HR2.out
  have r0 : _ = some (Value.slice none 0 0) := cell_of_heap (k := 0) k1
  have r1 : _ = some (Value.int .i64 0) := cell_of_heap (k := 1) k1
  have hw1 : w.heap.size ≤ w1.heap.size := HB1.out.size
  refine bodyPost_ret (v := .tuple #[.agg #[.slice none 0 0, .int .i64 0], .bool false]) (by simp [results, Try.results115, go_sem, r0, r1]) rfl ⟨rfl, ?_⟩
  exact ((below_al HB1.out _).setCell (p := ⟨w.heap.size + 1, 0, none⟩) (Nat.le_succ _) _).setCell (p := ⟨w.heap.size + 1, 1, none⟩) (Nat.le_succ _) _
theorem next_end {W2 : World} {sB rx fx : Nat} {V u0 u1 n : Value} {cr cx : Array Value} (hs2 : W2.heap[sB]? = some (.cells #[u0, u1] 150 (0, 0))) (hr2 : W2.heap[rx]? = some (.cells cr 121 (0, 0))) (hx2 : W2.heap[fx]? = some (.cells cx 121 (0, 0))) :
    ∀ W3, ((W2.setCell ⟨sB, 0, none⟩ V).setCell ⟨sB, 1, none⟩ n).drew = W3 → W3.heap[sB]? = some (.cells #[V, n] 150 (0, 0)) ∧ W3.heap[rx]? = some (.cells cr 121 (0, 0)) ∧ W3.heap[fx]? = some (.cells cx 121 (0, 0)) ∧ (∀ v bs, Bt W2 v bs → Bt W3 v bs) ∧ W2.grownBy W3 (some sB) := by
  rintro W3 rfl
  have hne : ∀ {b : Nat} {c : Array Value}, W2.heap[b]? = some (.cells c 121 (0, 0)) → b ≠ sB := by
    rintro b c h rfl
    rw [hs2] at h
    cases h
  have h1 := heap_setCell_same _ sB 0 V _ _ _ hs2
  have h2 := heap_setCell_same _ sB 1 n _ _ _ h1
  have g1 := grownBy_set W2 sB 0 V
  have g2 := grownBy_set (W2.setCell ⟨sB, 0, none⟩ V) sB 1 n
  have h3 : ((W2.setCell ⟨sB, 0, none⟩ V).setCell ⟨sB, 1, none⟩ n).heap[sB]? = some (.cells #[V, n] 150 (0, 0)) := by simpa using h2
  refine ⟨h3, heap_set_other1 (heap_set_other1 hr2 (hne hr2)) (hne hr2), heap_set_other1 (heap_set_other1 hx2 (hne hx2)) (hne hx2), fun v bs h => ?_, ?_⟩
  · have k := (h.kept g1 (noBytes_of hs2 (by decide))).kept g2 (noBytes_of h1 (by decide))
    exact k.below (below_dr (Below.refl _ _))
  · exact ⟨g2.os.trans g1.os, g2.tape.trans g1.tape, g2.output.trans g1.output, Nat.le_trans g1.size g2.size, fun k hk hn => (g2.block k (Nat.lt_of_lt_of_le hk g1.size) hn).trans (g1.block k hk hn)⟩
set_option maxHeartbeats 8000000 in
theorem next_ok (sB at_ : Nat) (A : Option Addr) (cap : Nat) (bs h : List B8) (w : World) (hs : w.heap[sB]? = some (.cells #[.slice A bs.length cap, .int .i64 at_] 150 (0, 0))) (hb : Bt w (.slice A bs.length cap) bs) (hl : bs.length ≤ 1099511627776) (hat : at_ ≤ 1099511627776) (hf : firstW bs = .ok h) :
    Calls Try.prog 115 #[.pointer (some ⟨sB, 0, none⟩)] w (NextE w sB bs at_ (.ok h)) := by
  have hmf : ∀ (fn : Fn) (first cap : Array Value) (w : World), (Instr.makeFunc fn first cap).run Try.prog w = .ok (.func fn first cap) w := fun _ _ _ _ => rfl
  have hlen := firstW_len hf
  obtain ⟨_, cap', ee, hc1, hc2, _⟩ := id hb.1
  cases ee
  unfold maxLen at hc2
  have HB := Lib.hid (below_al (below_al (Below.refl _ w) (.cells #[.pointer (some ⟨sB, 0, none⟩)] 146)) (.cells #[.slice none 0 0, .int .i64 0] 121))
  have HP : Hid (∀ X, X = (((w.alloc (.cells #[.pointer (some ⟨sB, 0, none⟩)] 146)).alloc (.cells #[.slice none 0 0, .int .i64 0] 121)).alloc (.cells #[.slice none 0 0, .int .i64 0] 121)).alloc (.cells #[.int .i64 0] 28) → Calls Try.prog 127 #[.pointer (some ⟨w.heap.size, 0, none⟩)] X (FoundE X (firstW bs))) := Lib.hid (by
    rintro X rfl
    have hbX := below_al (below_al HB.out (.cells #[.slice none 0 0, .int .i64 0] 121)) (.cells #[.int .i64 0] 28)
    exact next1_calls _ sB _ bs _ (cell_of_heap (new_next _ _ (new_next _ _ (new_next _ _ (new_here w _))))) (cell_of_heap ((hbX.block _ (lt_of_heap hs)).trans hs)) (hb.1.below hbX) hl)
  rw [hf] at HP
  have HR0 := Lib.hid (by have := new_here (w.alloc (.cells #[.pointer (some ⟨sB, 0, none⟩)] 146)) (.cells #[.slice none 0 0, .int .i64 0] 121); rwa [World.size_alloc] at this)
  have HQ0 := Lib.hid (new_next _ (.cells #[.slice none 0 0, .int .i64 0] 121) (new_here w (.cells #[.pointer (some ⟨sB, 0, none⟩)] 146)))
  have HSB := Lib.hid hs
  have HBT := Lib.hid hb
  have HT : Hid (∀ w', TriedE w' (.ok h) = fun e W => Below w'.heap.size w' W ∧ ∃ A c, e = .returned (.tuple #[.agg #[.slice A h.length c, .int .i64 ((h.length : Int) + 8)], .int .i64 0]) ∧ Bt W (.slice A h.length c) h) := Lib.hid (fun w' => rfl)
  obtain ⟨N, hN⟩ : ∃ N, h.length + 8 = N := ⟨_, rfl⟩
  have eN : (h.length : Int) + 8 = (N : Int) := by omega
  have HN := Lib.hid hN
  have hlt : sB < w.heap.size := lt_of_heap hs
  have HLT := Lib.hid hlt
  rw [eN] at HT
  clear hs hb hf hN eN hlt
  go_enter Try.func115, Try.ntmps115
  go_wp2_with (go_at_call 90; refine (tries90_calls 127 _ _ _ e127 HP.out).mono ?_; rw [HT.out]; rintro e w1 ⟨hb1, A1, c1, rfl, ho1⟩; (have HB1 := Lib.hid (below_tr HB.out hb1)); (have HR1 := Lib.hid ((hb1.block _ (lt_of_heap HR0.out)).trans HR0.out)); (have HQ1 := Lib.hid ((hb1.block _ (lt_of_heap HQ0.out)).trans HQ0.out)); (have HO1 := Lib.hid ho1); (clear hb1 ho1))
  obtain ⟨W2, hW2⟩ : ∃ W2, w1.alloc (.cells #[.slice A1 h.length c1, .int .i64 N] 121) = W2 := ⟨_, rfl⟩
  have hb2 : Below w1.heap.size w1 W2 := by rw [← hW2]; exact below_al (Below.refl _ _) _
  have hx2 : W2.heap[w1.heap.size]? = some (.cells #[.slice A1 h.length c1, .int .i64 N] 121 (0, 0)) := by rw [← hW2]; exact new_here w1 _
  have HB2 := Lib.hid (below_tr HB1.out hb2)
  have hr2 := (hb2.block _ (lt_of_heap HR1.out)).trans HR1.out
  have hq2 := (hb2.block _ (lt_of_heap HQ1.out)).trans HQ1.out
  have hs2 := (HB2.out.block _ HLT.out).trans HSB.out
  have HO2 := Lib.hid (HO1.out.below hb2)
  have HT2 := Lib.hid (HBT.out.below HB2.out)
  have q0 : W2.cell? ⟨w.heap.size, 0, none⟩ = some (.pointer (some ⟨sB, 0, none⟩)) := cell_of_heap hq2
  have s0 : W2.cell? ⟨sB, 0, none⟩ = some (.slice A bs.length cap) := cell_of_heap hs2
  have s1 : W2.cell? ⟨sB, 1, none⟩ = some (.int .i64 at_) := cell_of_heap hs2
  have sf0 : W2.frozen? ⟨sB, 0, none⟩ = false := free_of_heap hs2
  have sf1 : W2.frozen? ⟨sB, 1, none⟩ = false := free_of_heap hs2
  have x1 : W2.cell? ⟨w1.heap.size, 1, none⟩ = some (.int .i64 N) := cell_of_heap hx2
  have hz1 : w.heap.size + 1 < w1.heap.size := by have := lt_of_heap HR1.out; exact this
  have hsz : sB < w.heap.size := HLT.out
  have HV : Hid (∀ V : Value, (W2.setCell ⟨sB, 0, none⟩ V).cell? ⟨w.heap.size, 0, none⟩ = some (.pointer (some ⟨sB, 0, none⟩)) ∧ (W2.setCell ⟨sB, 0, none⟩ V).cell? ⟨sB, 1, none⟩ = some (.int .i64 at_) ∧ (W2.setCell ⟨sB, 0, none⟩ V).frozen? ⟨sB, 1, none⟩ = false ∧ (W2.setCell ⟨sB, 0, none⟩ V).cell? ⟨w1.heap.size, 1, none⟩ = some (.int .i64 N)) := Lib.hid (fun V => by
    have h1 := heap_setCell_same _ sB 0 V _ _ _ hs2
    exact ⟨cell_of_heap (heap_set_other1 hq2 (by omega)), cell_of_heap h1, free_of_heap h1, cell_of_heap (heap_set_other1 hx2 (by omega))⟩)
  have HV2 : Hid (∀ V n : Value, ((W2.setCell ⟨sB, 0, none⟩ V).setCell ⟨sB, 1, none⟩ n).cell? ⟨w.heap.size, 0, none⟩ = some (.pointer (some ⟨sB, 0, none⟩)) ∧ ((W2.setCell ⟨sB, 0, none⟩ V).setCell ⟨sB, 1, none⟩ n).cell? ⟨w1.heap.size, 1, none⟩ = some (.int .i64 N)) := Lib.hid (fun V n => by
    exact ⟨cell_of_heap (heap_set_other1 (heap_set_other1 hq2 (by omega)) (by omega)), cell_of_heap (heap_set_other1 (heap_set_other1 hx2 (by omega)) (by omega))⟩)
  clear hz1 hsz
  have HS2 := Lib.hid hs2
  have HR2 := Lib.hid hr2
  have HX2 := Lib.hid hx2
  have HW2 := Lib.hid hW2
  have b0 : (0 : Int) ≤ (N : Int) := by omega
  have b1 : (N : Int) ≤ (bs.length : Int) := by have := HN.out; omega
  have b2 : (N : Int) ≤ (cap : Int) := by omega
  have hne : Hid (A ≠ none) := Lib.hid (by
    intro e
    obtain ⟨_, _, ee, _, _, _, h5⟩ := HT2.out.1
    cases ee
    obtain ⟨b, off, e2, _⟩ := h5 (by have := HN.out; omega)
    rw [e] at e2
    cases e2)
  clear hW2 hb2 hx2 hr2 hq2 hs2
  rw [HW2.out]
  by_cases hc4 : cap = N
  · subst hc4
    have HBV : Hid (Bt W2 (.slice A 0 0) (bs.drop cap)) := Lib.hid (by
      have e : bs.drop cap = [] := List.drop_eq_nil_of_le (by omega)
      rw [e]
      exact bt_zero (fun _ => rfl) (by simp [maxLen]))
    have HZ : Hid (bs.length - cap = 0) := Lib.hid (by omega)
    obtain ⟨b0, off0, rfl⟩ : ∃ b0 off0, A = some ⟨b0, off0, none⟩ := by
      obtain ⟨_, _, ee, _, _, _, h5⟩ := HT2.out.1
      cases ee
      obtain ⟨b, off, e2, _⟩ := h5 (by have := HN.out; omega)
      exact ⟨b, off, e2⟩
    obtain ⟨y0, y1, y2, y3⟩ := HV.out (.slice (some ⟨b0, off0, none⟩) 0 0)
    have hld := ldo_eq
    have hwr : IntKind.i64.wrap ((at_ : Int) + (cap : Int)) = (at_ : Int) + (cap : Int) := by rw [IntKind.wrap_i64]; omega
    simp only [← ldo_eq 34 19, ← ldo_eq 3 26]
    go_region_held3 (fun X => X.cell? ⟨w.heap.size, 0, none⟩ = some (.pointer (some ⟨sB, 0, none⟩)) ∧ X.cell? ⟨w1.heap.size, 1, none⟩ = some (.int .i64 (cap : Int)))
      (first | exact ⟨q0, x1⟩ | exact ⟨y0, y3⟩ | exact HV2.out _ _)
      (fail)
    all_goals clear hld hwr
    all_goals
      obtain ⟨W3, hW3⟩ : ∃ W3, ((W2.setCell ⟨sB, 0, none⟩ (.slice (some ⟨b0, off0, none⟩) 0 0)).setCell ⟨sB, 1, none⟩ (.int .i64 ((at_ : Int) + (cap : Int)))).drew = W3 := ⟨_, rfl⟩
      rw [hW3]
      obtain ⟨k1, k2, k3, k4, k5⟩ := next_end HS2.out HR2.out HX2.out W3 hW3
      have z0 : W3.cell? ⟨w1.heap.size, 0, none⟩ = some (.slice A1 h.length c1) := cell_of_heap k3
      have z1 : W3.cell? ⟨w1.heap.size, 1, none⟩ = some (.int .i64 cap) := cell_of_heap k3
      have v0 : W3.cell? ⟨w.heap.size + 1, 0, none⟩ = some (.slice none 0 0) := cell_of_heap k2
      have v1 : W3.cell? ⟨w.heap.size + 1, 1, none⟩ = some (.int .i64 0) := cell_of_heap k2
      have f0 : W3.frozen? ⟨w.heap.size + 1, 0, none⟩ = false := free_of_heap k2
      have f1 : W3.frozen? ⟨w.heap.size + 1, 1, none⟩ = false := free_of_heap k2
      have k6 := heap_setCell_same _ _ 0 (.slice A1 h.length c1) _ _ _ k2
      have v2 : _ = some (Value.int .i64 0) := cell_of_heap (k := 1) k6
      have f2 := free_of_heap (k := 1) k6
      obtain ⟨m1, m2⟩ := found_end (S := .slice A1 h.length c1) (s := cap) k2
      have K1 := Lib.hid k1
      have K2 := Lib.hid k2
      have K6 := Lib.hid k6
      have K4 := Lib.hid (k4 _ _ HO2.out)
      have KB := Lib.hid (k4 _ _ HBV.out)
      have K5 := Lib.hid k5
      have M1 := Lib.hid m1
      have M2 := Lib.hid m2
      clear k1 k2 k3 k4 k5 k6 m1 m2 hW3 y0 y1 y2 y3 q0 s0 s1 sf0 sf1 x1
      go_wp2
      have r0 : _ = some (Value.slice A1 h.length c1) := cell_of_heap (k := 0) M1.out
      have r1 : _ = some (Value.int .i64 cap) := cell_of_heap (k := 1) M1.out
      refine bodyPost_ret (v := .tuple #[.agg #[.slice A1 h.length c1, .int .i64 cap], .bool true]) (by simp [results, Try.results115, go_sem, r0, r1]) rfl ?_
      have hnn : (h.length : Int) + 8 = (cap : Int) := by have := HN.out; omega
      have hsz : sB < w.heap.size := HLT.out
      refine ⟨A1, c1, some ⟨b0, off0, none⟩, 0, by rw [hnn], M2.out _ _ K4.out, ?_, ?_, ?_⟩
      · rw [hnn, HN.out, HZ.out]
        exact heap_set_other1 (heap_set_other1 K1.out (by omega)) (by omega)
      · rw [HN.out, HZ.out]
        exact M2.out _ _ KB.out
      · have g1 := grownBy_set W3 (w.heap.size + 1) 0 (.slice A1 h.length c1)
        have g2 := grownBy_set (W3.setCell ⟨w.heap.size + 1, 0, none⟩ (.slice A1 h.length c1)) (w.heap.size + 1) 1 (.int .i64 cap)
        have hb2 := HB2.out
        have k5 := K5.out
        have hs := hb2.size
        refine ⟨(g2.os.trans g1.os).trans (k5.os.trans hb2.os), (g2.tape.trans g1.tape).trans (k5.tape.trans hb2.tape), (g2.output.trans g1.output).trans (k5.output.trans hb2.output), Nat.le_trans (Nat.le_trans hs k5.size) (Nat.le_trans g1.size g2.size), fun k hk hn => ?_⟩
        have e1 := hb2.block k hk
        have e2 := k5.block k (by omega) hn
        have e3 := g1.block k (by have := k5.size; omega) (fun e => by cases e; omega)
        have e4 := g2.block k (by have := k5.size; have := g1.size; omega) (fun e => by cases e; omega)
        exact e4.trans (e3.trans (e2.trans e1))
  · have c2 : (N : Int) < (cap : Int) := by omega
    have c3 : ¬ ((cap : Int) = (N : Int)) := by omega
    have c4 : (cap = N) = False := eq_false hc4
    obtain ⟨b0, off0, rfl⟩ : ∃ b0 off0, A = some ⟨b0, off0, none⟩ := by
      obtain ⟨_, _, ee, _, _, _, h5⟩ := HT2.out.1
      cases ee
      obtain ⟨b, off, e2, _⟩ := h5 (by have := HN.out; omega)
      exact ⟨b, off, e2⟩
    have HBV : Hid (Bt W2 (.slice (some ⟨b0, off0 + N, none⟩) (bs.length - N) (cap - N)) (bs.drop N)) := Lib.hid (by exact HT2.out.drop N (bs.length - N) (cap - N) (by have := HN.out; omega) rfl)
    clear hc4
    obtain ⟨y0, y1, y2, y3⟩ := HV.out (.slice (some ⟨b0, off0 + N, none⟩) (bs.length - N) (cap - N))
    have hld := ldo_eq
    have hwr : IntKind.i64.wrap ((at_ : Int) + (N : Int)) = (at_ : Int) + (N : Int) := by rw [IntKind.wrap_i64]; omega
    simp only [← ldo_eq 34 19, ← ldo_eq 3 26]
    go_region_held3 (fun X => X.cell? ⟨w.heap.size, 0, none⟩ = some (.pointer (some ⟨sB, 0, none⟩)) ∧ X.cell? ⟨w1.heap.size, 1, none⟩ = some (.int .i64 (N : Int)))
      (first | exact ⟨q0, x1⟩ | exact ⟨y0, y3⟩ | exact HV2.out _ _)
      (fail)
    all_goals clear hld hwr
    all_goals
      obtain ⟨W3, hW3⟩ : ∃ W3, ((W2.setCell ⟨sB, 0, none⟩ (.slice (some ⟨b0, off0 + N, none⟩) (bs.length - N) (cap - N))).setCell ⟨sB, 1, none⟩ (.int .i64 ((at_ : Int) + (N : Int)))).drew = W3 := ⟨_, rfl⟩
      rw [hW3]
      obtain ⟨k1, k2, k3, k4, k5⟩ := next_end HS2.out HR2.out HX2.out W3 hW3
      have z0 : W3.cell? ⟨w1.heap.size, 0, none⟩ = some (.slice A1 h.length c1) := cell_of_heap k3
      have z1 : W3.cell? ⟨w1.heap.size, 1, none⟩ = some (.int .i64 N) := cell_of_heap k3
      have v0 : W3.cell? ⟨w.heap.size + 1, 0, none⟩ = some (.slice none 0 0) := cell_of_heap k2
      have v1 : W3.cell? ⟨w.heap.size + 1, 1, none⟩ = some (.int .i64 0) := cell_of_heap k2
      have f0 : W3.frozen? ⟨w.heap.size + 1, 0, none⟩ = false := free_of_heap k2
      have f1 : W3.frozen? ⟨w.heap.size + 1, 1, none⟩ = false := free_of_heap k2
      have k6 := heap_setCell_same _ _ 0 (.slice A1 h.length c1) _ _ _ k2
      have v2 : _ = some (Value.int .i64 0) := cell_of_heap (k := 1) k6
      have f2 := free_of_heap (k := 1) k6
      obtain ⟨m1, m2⟩ := found_end (S := .slice A1 h.length c1) (s := N) k2
      have K1 := Lib.hid k1
      have K2 := Lib.hid k2
      have K6 := Lib.hid k6
      have K4 := Lib.hid (k4 _ _ HO2.out)
      have KB := Lib.hid (k4 _ _ HBV.out)
      have K5 := Lib.hid k5
      have M1 := Lib.hid m1
      have M2 := Lib.hid m2
      clear k1 k2 k3 k4 k5 k6 m1 m2 hW3 y0 y1 y2 y3 q0 s0 s1 sf0 sf1 x1
      go_wp2
      have r0 : _ = some (Value.slice A1 h.length c1) := cell_of_heap (k := 0) M1.out
      have r1 : _ = some (Value.int .i64 N) := cell_of_heap (k := 1) M1.out
      refine bodyPost_ret (v := .tuple #[.agg #[.slice A1 h.length c1, .int .i64 N], .bool true]) (by simp [results, Try.results115, go_sem, r0, r1]) rfl ?_
      have hnn : (h.length : Int) + 8 = (N : Int) := by have := HN.out; omega
      have hsz : sB < w.heap.size := HLT.out
      refine ⟨A1, c1, some ⟨b0, off0 + N, none⟩, cap - N, by rw [hnn], M2.out _ _ K4.out, ?_, ?_, ?_⟩
      · rw [hnn, HN.out]
        exact heap_set_other1 (heap_set_other1 K1.out (by omega)) (by omega)
      · rw [HN.out]
        exact M2.out _ _ KB.out
      · have g1 := grownBy_set W3 (w.heap.size + 1) 0 (.slice A1 h.length c1)
        have g2 := grownBy_set (W3.setCell ⟨w.heap.size + 1, 0, none⟩ (.slice A1 h.length c1)) (w.heap.size + 1) 1 (.int .i64 N)
        have hb2 := HB2.out
        have k5 := K5.out
        have hs := hb2.size
        refine ⟨(g2.os.trans g1.os).trans (k5.os.trans hb2.os), (g2.tape.trans g1.tape).trans (k5.tape.trans hb2.tape), (g2.output.trans g1.output).trans (k5.output.trans hb2.output), Nat.le_trans (Nat.le_trans hs k5.size) (Nat.le_trans g1.size g2.size), fun k hk hn => ?_⟩
        have e1 := hb2.block k hk
        have e2 := k5.block k (by omega) hn
        have e3 := g1.block k (by have := k5.size; omega) (fun e => by cases e; omega)
        have e4 := g2.block k (by have := k5.size; have := g1.size; omega) (fun e => by cases e; omega)
        exact e4.trans (e3.trans (e2.trans e1))
theorem next_calls (sB at_ : Nat) (A : Option Addr) (cap : Nat) (bs : List B8) (w : World) (hs : w.heap[sB]? = some (.cells #[.slice A bs.length cap, .int .i64 at_] 150 (0, 0))) (hb : Bt w (.slice A bs.length cap) bs) (hl : bs.length ≤ 1099511627776) (hat : at_ ≤ 1099511627776) :
    Calls Try.prog 115 #[.pointer (some ⟨sB, 0, none⟩)] w (NextE w sB bs at_ (firstW bs)) := by
  cases hf : firstW bs with
  | ok h => exact next_ok sB at_ A cap bs h w hs hb hl hat hf
  | error n => exact next_no sB at_ _ bs n (firstW_err hf) w hs hb hl hf
end Go.Proofs.Ytnhmhnejglpijaa
