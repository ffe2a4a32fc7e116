/- Opened bytes. -/
import Derived.Test.YtekbjgnlaompbaaCk
import Derived.Deep.AppendLies
import Derived.Deep.DeepMust
import Derived.Deep.RegionLaw
import Derived.Deep.DeepCutAuto
import Derived.Deep.CutBlock
namespace Go.Proofs.Ytekbjgnlaompbaa
open Go.RowKit
theorem sum_any (a : Nat) (v : Value) (bs : List B8) (S : W32) (hS : moreW 0 bs = S) (W : World) (hW : W.heap[a]? = some (.cells #[v] 29 (0, 0))) (hb : Bys W v bs) :
    Calls Try.prog 20 #[.slice (some ⟨a, 0, none⟩) 1 1] W fun e w' => e = .returned (.int .u32 (nb S)) ∧ Below W.heap.size W w' := by
  subst hS
  have hR : Rws W (.slice (some ⟨a, 0, none⟩) 1 1) [bs] := by
    refine ⟨_, 1, rfl, by simp, fun _ => ⟨_, _, rfl, fun j hj => ?_⟩⟩
    obtain rfl : j = 0 := by simpa using hj
    exact ⟨v, cell_of_heap hW, hb⟩
  have := sum_calls _ _ _ _ _ hR
  simpa using this
theorem bcell {W w1 : World} (hb : Below W.heap.size W w1) : (∀ b o, b < W.heap.size → w1.cell? ⟨b, o, none⟩ = W.cell? ⟨b, o, none⟩) ∧ (∀ b o, b < W.heap.size → w1.frozen? ⟨b, o, none⟩ = W.frozen? ⟨b, o, none⟩) :=
  ⟨fun b o h => hb.cell (p := ⟨b, o, none⟩) h, fun b o h => hb.frozen (p := ⟨b, o, none⟩) h⟩
theorem set_four {W : World} {a : Nat} (S : W32) (h : W.heap[a]? = some (.cells #[.int .u8 0, .int .u8 0, .int .u8 0, .int .u8 0] 26 (0, 0))) :
    ((((W.setCell ⟨a, 0, none⟩ (.int .u8 (bn (byt0 S)))).setCell ⟨a, 1, none⟩ (.int .u8 (bn (byt1 S)))).setCell ⟨a, 2, none⟩ (.int .u8 (bn (byt2 S)))).setCell ⟨a, 3, none⟩ (.int .u8 (bn (byt3 S)))).heap[a]? =
      some (.cells (bvals (fourB S)).toArray 26 (0, 0)) := by
  have h1 := heap_setCell_same _ _ 0 (.int .u8 (bn (byt0 S))) _ _ _ h
  have h2 := heap_setCell_same _ _ 1 (.int .u8 (bn (byt1 S))) _ _ _ h1
  have h3 := heap_setCell_same _ _ 2 (.int .u8 (bn (byt2 S))) _ _ _ h2
  have h4 := heap_setCell_same _ _ 3 (.int .u8 (bn (byt3 S))) _ _ _ h3
  exact h4
theorem below_four {w W : World} {a : Nat} (h : Below w.heap.size w W) (ha : w.heap.size ≤ a) (v0 v1 v2 v3 : Value) :
    Below w.heap.size w ((((W.setCell ⟨a, 0, none⟩ v0).setCell ⟨a, 1, none⟩ v1).setCell ⟨a, 2, none⟩ v2).setCell ⟨a, 3, none⟩ v3) :=
  (((h.setCell (p := ⟨a, 0, none⟩) ha _).setCell (p := ⟨a, 1, none⟩) ha _).setCell (p := ⟨a, 2, none⟩) ha _).setCell (p := ⟨a, 3, none⟩) ha _
/-- Behind the sum of what is ahead of the last four. -/
def OpenR (w : World) (S : W32) (x6 : Value) (W : World) : Prop := ∃ a, x6 = .pointer (some ⟨a, 0, none⟩) ∧ w.heap.size ≤ a ∧ W.heap[a]? = some (.cells (bvals (fourB S)).toArray 26 (0, 0)) ∧ Below w.heap.size w W
theorem _root_.Go.RowKit.Below.drewN {B : Nat} {a w : World} (h : Below B a w) (n : Nat) : Below B a (w.drewN n) := ⟨h.os, h.tape, h.output, h.size, h.block⟩
theorem below_al {w W : World} (h : Below w.heap.size w W) (o : Obj) : Below w.heap.size w (W.alloc o) := h.alloc h.size o
theorem below_dr {w W : World} (h : Below w.heap.size w W) : Below w.heap.size w W.drew := h.drew
theorem below_tr {w W W' : World} (h : Below w.heap.size w W) (k : Below W.heap.size W W') : Below w.heap.size w W' := h.trans (k.mono h.size)
theorem Bys.drop {w : World} {b off n cap : Nat} {bs : List B8} (h : Bys w (.slice (some ⟨b, off, none⟩) n cap) bs) (m k c : Nat) (hm : m + k = n) (hc : c = cap - m) : Bys w (.slice (some ⟨b, off + m, none⟩) k c) (bs.drop m) := by
  obtain ⟨A', cap', e, h1, h2, h3, h4⟩ := h
  cases e
  have hl : (bs.drop m).length = k := by simp; omega
  refine ⟨some ⟨b, off + m, none⟩, c, by rw [hl], by omega, by omega, (fun h => by cases h), fun hp => ?_⟩
  obtain ⟨b', off', e, hc⟩ := h4 (by omega)
  cases e
  refine ⟨b, off + m, rfl, fun j hj => ?_⟩
  rw [hl] at hj
  rw [Nat.add_assoc, hc (m + j) (by omega)]
  simp [byteAt, List.getD_eq_getElem?_getD, List.getElem?_drop]
theorem Bys.recap {w : World} {a : Addr} {n cap : Nat} {bs : List B8} (h : Bys w (.slice (some a) n cap) bs) (c : Nat) (h1 : n ≤ c) (h2 : c ≤ cap) : Bys w (.slice (some a) n c) bs := by
  obtain ⟨A', cap', e, g1, g2, g3, g4⟩ := h
  cases e
  exact ⟨some a, c, rfl, h1, by omega, (fun h => by cases h), g4⟩
theorem Own8.base {w : World} {B B' : Nat} {v : Value} {bs : List B8} (h : Own8 w B v bs) (hB : B' ≤ B) : Own8 w B' v bs := by
  refine ⟨h.1, ?_⟩
  rcases h.2 with hn | ⟨g, cap, cur, rfl, hb, rest⟩
  · exact .inl hn
  · exact .inr ⟨g, cap, cur, rfl, by omega, rest⟩
/-- What is sealed in bytes. -/
def openedW (bs : List B8) : Option (List B8) := if bs.length < 4 then none else if bs.drop (bs.length - 4) = fourB (moreW 0 (bs.take (bs.length - 4))) then some (bs.take (bs.length - 4)) else none
def OpenE (w : World) (r : Option (List B8)) (e : Ending) (w' : World) : Prop :=
  Below w.heap.size w w' ∧ match r with
  | none => e = .returned (.tuple #[.slice none 0 0, .int .i64 120])
  | some l => ∃ v', e = .returned (.tuple #[v', .int .i64 0]) ∧ Own8 w' w.heap.size v' l
theorem open_short (v : Value) (bs : List B8) (w : World) (hb : Bys w v bs) (hs : bs.length < 4) :
    Calls Try.prog 16 #[v] w fun e w' => e = .returned (.tuple #[.slice none 0 0, .int .i64 120]) ∧ w = w' := by
  obtain ⟨A, cap, rfl, hc1, hc2, hc3, hc4⟩ := hb
  clear hc3 hc4
  unfold maxLen at hc2
  have hlt : ((bs.length : Int) - 4 < 0) := by omega
  go_enter Try.func16, Try.ntmps16
  go_wp2
  go_ret2
  exact ⟨rfl, rfl⟩
set_option maxRecDepth 100000 in
set_option maxHeartbeats 1000000 in
theorem open_calls (v : Value) (bs : List B8) (w : World) (hb : Bys w v bs) (hs : 4 ≤ bs.length) (hlen : bs.length ≤ 1099511627776) :
    Calls Try.prog 16 #[v] w (OpenE w (openedW bs)) := by
  obtain ⟨m, hm⟩ : ∃ m, bs.length = m + 4 := ⟨bs.length - 4, by omega⟩
  have hb' := hb
  obtain ⟨A, cap, rfl, hc1, hc2, hc3, hc4⟩ := hb'
  obtain ⟨bb, off, rfl, _⟩ := hc4 (by omega)
  have HB := Lib.hid hb
  have HB2 := Lib.hid (hb.take m (by omega))
  have HM := Lib.hid hm
  unfold maxLen at hc2
  rw [hm] at hc1
  rw [hm]
  clear hb hc3 hc4 hm
  have em : ((m : Int) + 4 - 4) = m := by omega
  have em2 : ((m + 4 : Nat) : Int) = (m : Int) + 4 := by omega
  have i0 : (0 : Int) ≤ (m : Int) := by omega
  have hlt : ¬ ((m : Int) < 0) := by omega
  have i1 : (m : Int) ≤ (cap : Int) := by omega
  obtain ⟨S, hS⟩ : ∃ S, moreW 0 (bs.take m) = S := ⟨_, rfl⟩
  have HS := Lib.hid hS
  clear hS
  go_enter Try.func16, Try.ntmps16
  go_upto_region 4 with (fail)
  go_cut [5, 6] (fun x5 x6 W => x5 = .slice (some ⟨bb, off, none⟩) m m ∧ OpenR w S x6 W)
  case first =>
   go_region_law (first
    | (go_simp; go_at_call 20; refine (sum_any _ (.slice (some ⟨bb, off, none⟩) m cap) (bs.take m) S HS.out _ ?_ ?_).mono ?_; (first | exact new_here _ _ | exact heap_alloc2_new _ _ _ | exact heap_alloc2_old _ _ _); (refine HB2.out.below ?_; repeat (first | exact Below.refl _ _ | apply below_dr | apply below_al)); go_must (rintro e w2 ⟨rfl, h2⟩; obtain ⟨hc2, hf2⟩ := bcell h2; have hz2 := h2.size; simp at hz2; have hz3 : w.heap.size < w2.heap.size := (by omega); (first | (have hz4 : w.heap.size + 1 < w2.heap.size := (by omega)) | skip); have H2 := Lib.hid h2; clear h2))
    | (go_simp; go_at_call 26; refine (four_calls _ _).mono ?_; rintro e w3 ⟨rfl, h3⟩; obtain ⟨hc3, hf3⟩ := bcell h3; have H3 := Lib.hid h3; clear h3; simp only [fourV]))
   all_goals go_wp2_with fail
   all_goals go_meet
   all_goals
    have hb2 : Below w.heap.size w w2 := below_tr (by repeat (first | exact Below.refl _ _ | apply below_dr | apply below_al)) H2.out
    have hb3 : Below w.heap.size w w3 := below_tr (by first | exact hb2 | exact below_al hb2 _) H3.out
    have hs2 := hb2.size
    have hs3 := hb3.size
   · exact ⟨rfl, _, rfl, by omega, new_here w3 _, below_al hb3 _⟩
   · exact ⟨rfl, w2.heap.size, rfl, by omega, set_four _ ((H3.out.block _ (by simp)).trans (new_here w2 _)), below_four hb3 (by omega) _ _ _ _⟩
   · exact ⟨rfl, w.heap.size + 1, rfl, by omega, set_four _ ((H3.out.block _ (by omega)).trans ((H2.out.block _ (by simp)).trans (heap_alloc2_new w _ _))), below_four hb3 (by omega) _ _ _ _⟩
   · exact ⟨rfl, w.heap.size, rfl, by omega, set_four _ ((H3.out.block _ (by omega)).trans ((H2.out.block _ (by simp; omega)).trans (heap_alloc2_old w _ _))), below_four hb3 (by omega) _ _ _ _⟩
  case rest =>
    obtain ⟨rfl, a, rfl, ha, hh, hbw⟩ := hcut
    have HH := Lib.hid hh
    clear hh
    have hb4 := bys_of_heap HH.out (by simp [fourB, maxLen])
    have hb5 := (HB.out.below hbw)
    rw [HM.out] at hb5
    have hb6 := hb5.drop m 4 (cap - m) rfl rfl
    have hopen : openedW bs = if bs.drop m = fourB S then some (bs.take m) else none := by
      unfold openedW
      rw [if_neg (by omega), show bs.length - 4 = m by have := HM.out; omega, HS.out]
    have HB4 := Lib.hid hb4
    have HB6 := Lib.hid hb6
    have hnot : ∀ (x : Bool) (w : World), (Op.unary .not (.bool x)).run Try.prog w = .ok (.bool (!x)) w := fun _ _ => rfl
    have i2 : (0 : Int) ≤ (m : Int) + 4 := by omega
    have i3 : (m : Int) ≤ (m : Int) + 4 := by omega
    clear hb4 hb5 hb6
    by_cases he : bs.drop m = fourB S
    · rw [if_pos he] at hopen
      have he2 : decide (bs.drop m = fourB S) = true := decide_eq_true he
      have HO := Lib.hid hopen
      clear hopen he
      go_wp2
      go_quiet ((go_at_call 11; refine Calls.quiet_of (equal_calls _ _ (bs.drop m) (fourB S) _ HB6.out HB4.out)))
      go_wp2_with (at_builtin; refine wpList_app8 rfl (.tmp 28) (.tmp 29) rfl wc.heap.size _ _ [] (bs.take m) rfl (own8_empty _) rfl ?hx ?hl ?hbase ?_; rotate_left 3; intro v' w7 h7 h8 _)
      case hx => exact (HB2.out.recap m (Nat.le_refl _) (by omega)).below ((hbw.drewN _).alloc (by have := hbw.size; simpa using this) _)
      case hl => have := HM.out; have := List.length_take_le m bs; simp only [List.length_nil]; omega
      case hbase => simp
      go_ret2
      refine ⟨?_, ?_⟩
      · exact ((hbw.drewN nq).alloc (by have := hbw.size; simpa using this) (.cells #[] 5)).grown h8 (by have := hbw.size; simp; omega) (fun k e => by
          have : wc.heap.size = k := by simpa [Act.eval, Value.ownBlock] using e
          have := hbw.size
          omega)
      · rw [HO.out]
        exact ⟨v', rfl, Own8.base h7 hbw.size⟩
    · rw [if_neg he] at hopen
      have he2 : decide (bs.drop m = fourB S) = false := decide_eq_false he
      have HO := Lib.hid hopen
      clear hopen he
      go_wp2
      go_quiet ((go_at_call 11; refine Calls.quiet_of (equal_calls _ _ (bs.drop m) (fourB S) _ HB6.out HB4.out)))
      go_wp2
      go_ret2
      refine ⟨hbw.drewN _, ?_⟩
      rw [HO.out]
      rfl
theorem open_all (v : Value) (bs : List B8) (w : World) (hb : Bys w v bs) (hlen : bs.length ≤ 1099511627776) :
    Calls Try.prog 16 #[v] w (OpenE w (openedW bs)) := by
  by_cases hs : bs.length < 4
  · refine (open_short v bs w hb hs).mono ?_
    rintro e w' ⟨rfl, rfl⟩
    refine ⟨Below.refl _ _, ?_⟩
    rw [openedW, if_pos hs]
  · exact open_calls v bs w hb (by omega) hlen
end Go.Proofs.Ytekbjgnlaompbaa
