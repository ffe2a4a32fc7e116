/- net: a parcel is cut out: walk. -/
import Derived.Test.YtnhmhnejglpijaaNh
namespace Go.Proofs.Ytnhmhnejglpijaa
open Go.RowKit
set_option maxRecDepth 100000
set_option linter.unusedSimpArgs false
set_option linter.unusedVariables false
theorem owns_shape {w : World} {B e s n : Nat} {v : Value} {xs : List Value} (h : w.ownsRow B e s v n xs) : ∃ A c, v = .slice A n c := by
  rcases h.2 with ⟨rfl, hn⟩ | ⟨g, cap, cur, rfl, _⟩
  · exact ⟨none, 0, by rw [hn]⟩
  · exact ⟨_, _, rfl⟩
theorem cut_end {B H k : Nat} {told : List Pc} {lost : Int} {W w3 : World} {vp vt v3 : Value} {qs : List (Pc × Value)} {Bz n3 : Nat} (hBH : B ≤ H) (hB : B ≤ W.heap.size) (hh : W.heap[H]? = some (.cells #[vp, .int .u64 lost, vt] 104 (0, 0))) (hq : OwnQs W B vp qs) (ht : OwnPs W B vt told)
    (hk : k < qs.length) (hb : Below W.heap.size W w3) (h3 : w3.ownsRow Bz 36 3 v3 n3 (qcells (qs.take k) ++ qcells (qs.drop (k + 1)))) (hn3 : n3 = k + (qs.length - (k + 1))) (hBz : W.heap.size ≤ Bz) :
    HandR B H ((qs.map (·.1)).eraseIdx k) lost told (w3.setCell ⟨H, 0, none⟩ v3) ∧ Fr B W (w3.setCell ⟨H, 0, none⟩ v3) := by
  have hHl := lt_of_heap hh
  have hh3 : w3.heap[H]? = some (.cells #[vp, .int .u64 lost, vt] 104 (0, 0)) := (hb.block H hHl).trans hh
  refine ⟨HandR.setPs (ps := qs.map (·.1)) hBH hh3 ⟨qs.take k ++ qs.drop (k + 1), ?_, ⟨⟨?_, ?_⟩, ?_⟩⟩ (ht.below hb) ?_, (Fr.of_below hB hb).trans (Fr.set hBH hh3 (.inr rfl) 0 _)⟩
  · rw [List.map_append, List.map_take, List.map_drop, List.eraseIdx_eq_take_drop_succ]
  · rw [qcells_length]
  · rw [qcells_append]
    have hl : (qs.take k ++ qs.drop (k + 1)).length = n3 := by rw [List.length_append, List.length_take, List.length_drop, hn3]; omega
    rw [hl]
    rcases h3.2 with hn | ⟨g, cap, cur, rfl, hbg, rest⟩
    · exact .inl hn
    · exact .inr ⟨g, cap, cur, rfl, by omega, rest⟩
  · intro q hqm
    have : q ∈ qs := by
      rcases List.mem_append.1 hqm with h | h
      · exact List.mem_of_mem_take h
      · exact List.mem_of_mem_drop h
    exact (hq.2 q this).keptN (grown_of_below hb) (noBytes_none W)
  · intro b e e2
    have h1 := (World.ownsRow.lt h3 b e).1
    have h2 := (ht.lt b e2).2
    omega
theorem rowS_take {W : World} {B g k cap n : Nat} {qs : List (Pc × Value)} (h : OwnQs W B (.slice (some ⟨g, 0, none⟩) n cap) qs) (hk : k ≤ qs.length) (c : Nat) : RowS W (.slice (some ⟨g, 0, none⟩) k c) k (qcells (qs.take k)) := by
  have hc := World.ownsRow.cells h.1 rfl
  refine ⟨g, 0, c, rfl, by rw [qcells_length, List.length_take]; omega, fun u hu => ?_, (World.ownsRow.lt h.1 g rfl).2, fun j u hu => ?_⟩
  · exact qcells_one (v := .nilIface) (fun q hq => h.2 q (List.mem_of_mem_take hq)) u hu
  · rw [← qcells_take] at hu
    rw [List.getElem?_take] at hu
    split at hu
    · have := hc j u hu
      rw [add_plain] at this
      rw [Nat.zero_add]
      exact this
    · cases hu
theorem rowS_drop {W : World} {B g k cap n : Nat} {qs : List (Pc × Value)} (h : OwnQs W B (.slice (some ⟨g, 0, none⟩) n cap) qs) (hk : k ≤ qs.length) (c m : Nat) (hm : m = qs.length - k) : RowS W (.slice (some ⟨g, k * 3, none⟩) m c) m (qcells (qs.drop k)) := by
  have hc := World.ownsRow.cells h.1 rfl
  refine ⟨g, k * 3, c, rfl, by rw [qcells_length, List.length_drop, hm], fun u hu => ?_, (World.ownsRow.lt h.1 g rfl).2, fun j u hu => ?_⟩
  · exact qcells_one (v := .nilIface) (fun q hq => h.2 q (List.mem_of_mem_drop hq)) u hu
  · rw [← qcells_drop, List.getElem?_drop] at hu
    have := hc (k * 3 + j) u hu
    rw [add_plain] at this
    exact this
theorem rowS_nil {W : World} {B g cap n : Nat} {qs : List (Pc × Value)} (h : OwnQs W B (.slice (some ⟨g, 0, none⟩) n cap) qs) (c : Nat) : RowS W (.slice (some ⟨g, 0, none⟩) 0 c) 0 (qcells []) :=
  ⟨g, 0, c, rfl, rfl, fun u hu => (by cases hu), (World.ownsRow.lt h.1 g rfl).2, fun j u hu => (by simp [qcells] at hu)⟩
set_option maxHeartbeats 4000000 in
theorem cut_calls (B H : Nat) (ps told : List Pc) (lost : Int) (k : Nat) (W : World) (hR : HandR B H ps lost told W) (hB : B ≤ W.heap.size) (hk : k < ps.length) (hn : ps.length ≤ 64) :
    Calls Try.prog 121 #[.pointer (some ⟨H, 0, none⟩), .int .i64 k] W fun e w' => e = .returned (.tuple #[]) ∧ HandR B H (ps.eraseIdx k) lost told w' ∧ Fr B W w' := by
  obtain ⟨hBH, vp, vt, hh, hp, ht, hne⟩ := hR
  obtain ⟨A1, c1, rfl, hc1, hc2, hs1⟩ := hp.shape
  obtain ⟨g, rfl, hg1, hg2⟩ := hs1 (by omega)
  obtain ⟨qs, rfl, hq⟩ := hp
  rw [List.length_map] at hk hn hc1 hh hq
  have hHl := lt_of_heap hh
  have HK : Hid (∀ X, Below W.heap.size W X → X.cell? ⟨H, 0, none⟩ = some (.slice (some ⟨g, 0, none⟩) qs.length c1) ∧ X.frozen? ⟨H, 0, none⟩ = false) := Lib.hid (fun X hX => by
    have h1 := (hX.block H hHl).trans hh
    exact ⟨cell_of_heap h1, free_of_heap h1⟩)
  have HE := Lib.hid (fun (w3 : World) (v3 : Value) (Bz n3 : Nat) => cut_end (w3 := w3) (v3 := v3) (Bz := Bz) (n3 := n3) hBH hB hh hq ht hk)
  obtain ⟨q1, q2⟩ := HK.out W (Below.refl _ _)
  have w1 : IntKind.i64.wrap ((k : Int) + 1) = (k : Int) + 1 := by rw [IntKind.wrap_i64]; omega
  have w2 : (0 : Int) ≤ (k : Int) + 1 := by omega
  have w3' : ((k : Int) + 1).toNat = k + 1 := by omega
  have hkc : k ≤ c1 := by omega
  have hk1 : k + 1 ≤ qs.length := by omega
  have hk2 : (k : Int) + 1 ≤ (qs.length : Int) := by omega
  have HQ := Lib.hid hq
  clear hh hq ht hne hs1
  by_cases hcap : c1 = k + 1
  · have hql : qs.length = k + 1 := by omega
    subst hcap
    have hdr : Hid (qcells (qs.drop (k + 1)) = qcells []) := Lib.hid (by rw [List.drop_eq_nil_of_le (by omega)])
    rw [hql] at q1
    have hi9 : (k : Int) ≤ (k : Int) + 1 := by omega
    have hi8 : (k : Int) + 1 ≤ (k : Int) + 1 := by omega
    go_enter Try.func121, Try.ntmps121
    go_wp2
    go_region_law (first
      | (go_simp; go_at_call 136; (with_reducible refine (concat_calls W.heap.size (.slice (some ⟨g, 0, none⟩) k k) (.slice (some ⟨g, 0, none⟩) 0 0) k 0 (qcells (qs.take k)) (qcells []) 22 (0, 0) _ ?_ ?_ ?_ ?_).mono ?_); (exact new_here W.drew _); (exact (rowS_take HQ.out (by omega) _).below (by repeat (first | exact Below.refl _ _ | apply below_dr | apply below_al))); (exact (rowS_nil HQ.out _).below (by repeat (first | exact Below.refl _ _ | apply below_dr | apply below_al))); omega; rintro e w3 ⟨v3, rfl, hr3, hb3⟩; (obtain ⟨A3, c3, rfl⟩ := owns_shape hr3); (have hbt : Below W.heap.size W w3 := below_tr (by repeat (first | exact Below.refl _ _ | apply below_dr | apply below_al)) hb3); (obtain ⟨k1, k2⟩ := HK.out w3 hbt)))
    all_goals
      rw [← hdr.out] at hr3
      have hE := HE.out w3 _ _ _ hbt hr3 (by omega) (by simp)
      go_wp2
      go_end0
      exact ⟨rfl, hE.1, hE.2⟩
  · go_enter Try.func121, Try.ntmps121
    go_wp2
    go_region_law (first
      | (go_simp; go_at_call 136; (with_reducible refine (concat_calls W.heap.size (.slice (some ⟨g, 0, none⟩) k k) (.slice (some ⟨g, (k + 1) * 3, none⟩) (qs.length - (k + 1)) (c1 - (k + 1))) k (qs.length - (k + 1)) (qcells (qs.take k)) (qcells (qs.drop (k + 1))) 22 (0, 0) _ ?_ ?_ ?_ ?_).mono ?_); (exact new_here W.drew _); (exact (rowS_take HQ.out (by omega) _).below (by repeat (first | exact Below.refl _ _ | apply below_dr | apply below_al))); (exact (rowS_drop HQ.out (by omega) _ _ rfl).below (by repeat (first | exact Below.refl _ _ | apply below_dr | apply below_al))); omega; rintro e w3 ⟨v3, rfl, hr3, hb3⟩; (obtain ⟨A3, c3, rfl⟩ := owns_shape hr3); (have hbt : Below W.heap.size W w3 := below_tr (by repeat (first | exact Below.refl _ _ | apply below_dr | apply below_al)) hb3); (obtain ⟨k1, k2⟩ := HK.out w3 hbt)))
    all_goals
      have hE := HE.out w3 _ _ _ hbt hr3 rfl (by simp)
      go_wp2
      go_end0
      exact ⟨rfl, hE.1, hE.2⟩
end Go.Proofs.Ytnhmhnejglpijaa
