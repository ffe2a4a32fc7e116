/- The references: opened bytes. -/
import Derived.Test.YtekbjgnlaompbaaCq
import Derived.Deep.AppendLies
namespace Go.Proofs.Ytekbjgnlaompbaa
open Go.RowKit
def openedR (bs : List B8) : Option (List B8) := if bs.length < 4 then none else if bs.drop (bs.length - 4) = fourB (moreR 0#32 (bs.take (bs.length - 4))) then some (bs.take (bs.length - 4)) else none
def OpenRE (w : World) (r : Option (List B8)) (e : Ending) (w' : World) : Prop :=
  Below w.heap.size w w' ∧ match r with
  | none => e = .returned (.tuple #[.slice none 0 0, .bool false])
  | some l => ∃ v', e = .returned (.tuple #[v', .bool true]) ∧ Own8 w' w.heap.size v' l
theorem ropen_short (v : Value) (bs : List B8) (w : World) (hb : Bys w v bs) (hs : bs.length < 4) :
    Calls Try.prog 17 #[v] w fun e w' => e = .returned (.tuple #[.slice none 0 0, .bool false]) ∧ w = w' := by
  obtain ⟨A, cap, rfl, hc1, hc2, hc3, hc4⟩ := hb
  clear hc3 hc4
  unfold maxLen at hc2
  have hlt : ((bs.length : Int) - 4 < 0) := by omega
  go_enter Try.func17, Try.ntmps17
  go_wp2
  go_ret2
  exact ⟨rfl, rfl⟩
theorem four_ext {l : List B8} {x : W32} (hl : l.length = 4) (h : ∀ j, j < 4 → byteAt l j = byteAt (fourB x) j) : l = fourB x := by
  apply List.ext_getElem
  · rw [hl]; rfl
  · intro j h1 h2
    have := h j (by omega)
    simpa [byteAt, List.getD_eq_getElem?_getD, h1, h2] using this
theorem byteAt_drop (bs : List B8) (m j : Nat) : byteAt (bs.drop m) j = byteAt bs (m + j) := by simp [byteAt, List.getD_eq_getElem?_getD, List.getElem?_drop]
set_option maxRecDepth 100000 in
theorem ropen_calls (v : Value) (bs : List B8) (w : World) (hb : Bys w v bs) (hs : 4 ≤ bs.length) (hlen : bs.length ≤ 1099511627776) :
    Calls Try.prog 17 #[v] w (OpenRE w (openedR bs)) := by
  obtain ⟨m, hm⟩ : ∃ m, bs.length = m + 4 := ⟨bs.length - 4, by omega⟩
  have hb' := hb
  obtain ⟨A, cap, rfl, hc1, hc2, hc3, hc4⟩ := hb'
  obtain ⟨bb, off, rfl, hcells⟩ := hc4 (by omega)
  have HB := Lib.hid hb
  have HB2 := Lib.hid (hb.take m (by omega))
  have HM := Lib.hid hm
  have HC := Lib.hid hcells
  have hopen : openedR bs = if bs.drop m = fourB (moreR 0#32 (bs.take m)) then some (bs.take m) else none := by
    unfold openedR
    rw [if_neg (by omega), show bs.length - 4 = m by omega]
  obtain ⟨S, hS⟩ : ∃ S, moreR 0#32 (bs.take m) = S := ⟨_, rfl⟩
  rw [hS] at hopen
  have HO := Lib.hid hopen
  have HS := Lib.hid hS
  have htl : (bs.take m).length ≤ 1099511627776 := by simp; omega
  unfold maxLen at hc2
  rw [hm] at hc1
  rw [hm]
  clear hb hc3 hc4 hm hcells hopen hS
  have em : ((m : Int) + 4 - 4) = m := by omega
  have em2 : ((m + 4 : Nat) : Int) = (m : Int) + 4 := by omega
  have i0 : (0 : Int) ≤ (m : Int) := by omega
  have hlt : ¬ ((m : Int) < 0) := by omega
  have i1 : (m : Int) ≤ (cap : Int) := by omega
  go_enter Try.func17, Try.ntmps17
  go_wp2_with (first
    | (go_at_call 21; refine (rsum_calls _ (bs.take m) _ HB2.out htl).mono ?_; rintro e w' ⟨rfl, rfl⟩; rw [HS.out])
    | (go_at_call 29; refine (rfour_calls _ _).mono ?_; rintro e w2 ⟨v2, rfl, h3, h4⟩; obtain ⟨g, c2, e2, _⟩ := World.ownsRow.form h3 (show 0 < 4 by decide); rw [show (fourB S).length = 4 from rfl] at e2; subst e2; have H3 := Lib.hid h3; clear h3))
  go_loop [18, 5, 6] (fun i _ _ => ∃ k : Nat, k ≤ 4 ∧ i = .int .i64 k ∧ Hid (∀ j, j < k → byteAt (bs.drop m) j = byteAt (fourB S) j)) (fun i _ _ => 4 - (intOf i).toNat)
  case atStart => exact ⟨0, by omega, rfl, fun j hj => by omega⟩
  case round =>
    obtain ⟨k, hk, rfl, HK⟩ := hrel
    by_cases hlt4 : k < 4
    · have hd4 : decide ((k : Int) < 4) = true := by simp; omega
      have q1 := HC.out (m + k) (by have := HM.out; omega)
      have q2 := (h4.cell (p := ⟨bb, off + (m + k), none⟩) (World.block_lt_of_cell? _ _ q1)).trans q1
      have q3 := World.ownsRow.cells H3.out (g := g) rfl k _ (bvals_get (fourB S) k hlt4)
      rw [add_plain] at q3
      have j0 : (0 : Int) ≤ (m : Int) + (k : Int) := by omega
      have j1 : (m : Int) + (k : Int) < (m : Int) + 4 := by omega
      clear q1
      by_cases he : byteAt bs (m + k) = byteAt (fourB S) k
      · have hb1 : (bn (byteAt bs (m + k)) != bn (byteAt (fourB S) k)) = false := by rw [he]; simp
        have hk1 : ∀ j, j < k + 1 → byteAt (bs.drop m) j = byteAt (fourB S) j := fun j hj => by
          by_cases e : j = k
          · rw [e, byteAt_drop]; exact he
          · exact HK.out j (by omega)
        have HK1 := Lib.hid hk1
        clear hk1 he
        go_wp2
        go_round
        case rel => exact ⟨k + 1, by omega, by go_num, HK1⟩
        case measure => simp [intOf]; omega
      · have hb1 : (bn (byteAt bs (m + k)) != bn (byteAt (fourB S) k)) = true := by rw [bne_iff_ne]; exact fun h => he (bn_inj h)
        have hno : openedR bs = none := by
          rw [HO.out, if_neg]
          intro h
          apply he
          rw [← byteAt_drop, h]
        have HN := Lib.hid hno
        clear hno he
        go_wp2
        go_ret2
        refine ⟨h4, ?_⟩
        rw [HN.out]
        rfl
    · have hd4 : decide ((k : Int) < 4) = false := by simp; omega
      have hyes : openedR bs = some (bs.take m) := by
        rw [HO.out, if_pos]
        exact four_ext (by simp; have := HM.out; omega) (fun j hj => HK.out j (by omega))
      have HY := Lib.hid hyes
      clear hyes
      go_wp2_with (at_builtin; refine wpList_app8 rfl (.tmp 32) (.tmp 35) rfl w2.heap.size _ _ [] (bs.take m) rfl (own8_empty _) rfl ?hx ?hl ?hbase ?_; rotate_left 3; intro v' w7 h7 h8 _)
      case hx => exact HB2.out.below (h4.alloc (by have := h4.size; simpa using this) _)
      case hl => have := Nat.min_le_right m bs.length; omega
      go_ret2
      refine ⟨?_, ?_⟩
      · exact (h4.alloc (by have := h4.size; simpa using this) (.cells #[] 5)).grown h8 (by have := h4.size; simp; omega) (fun k e => by
          have : w2.heap.size = k := (by simpa [Act.eval, Value.ownBlock] using e)
          have := h4.size
          omega)
      · rw [HY.out]
        exact ⟨v', rfl, Own8.base h7 h4.size⟩
theorem ropen_all (v : Value) (bs : List B8) (w : World) (hb : Bys w v bs) (hlen : bs.length ≤ 1099511627776) :
    Calls Try.prog 17 #[v] w (OpenRE w (openedR bs)) := by
  by_cases hs : bs.length < 4
  · refine (ropen_short v bs w hb hs).mono ?_
    rintro e w' ⟨rfl, rfl⟩
    refine ⟨Below.refl _ _, ?_⟩
    rw [openedR, if_pos hs]
  · exact ropen_calls v bs w hb (by omega) hlen
end Go.Proofs.Ytekbjgnlaompbaa
