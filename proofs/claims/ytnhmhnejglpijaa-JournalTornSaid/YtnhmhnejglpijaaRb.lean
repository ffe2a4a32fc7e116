/- JournalTorn: what is shared by the laws; the plain law of a front. -/
import Derived.Test.YtnhmhnejglpijaaRa
namespace Go.Proofs.Ytnhmhnejglpijaa
open Go.RowKit
set_option maxRecDepth 100000
set_option linter.unusedSimpArgs false
set_option linter.unusedVariables false
theorem RwsA.at {w : World} {A : Option Addr} {n c k : Nat} {rows : List (List B8)} (h : RwsA w (.slice A n c) rows) (hk : k < rows.length) :
    ∃ b off A7 c7, A = some ⟨b, off, none⟩ ∧ w.cell? ⟨b, off + k, none⟩ = some (.slice A7 (rowAt rows k).length c7) ∧ Bys w (.slice A7 (rowAt rows k).length c7) (rowAt rows k) := by
  obtain ⟨A', cap', e', _, _, h3⟩ := h
  cases e'
  obtain ⟨b, off, e, hc⟩ := h3 (by omega)
  obtain ⟨sv, k1, k2⟩ := hc k hk
  obtain ⟨A7, c7, rfl, _⟩ := id k2
  exact ⟨b, off, A7, c7, e, k1, k2⟩
theorem few_at (v : Value) (rows : List (List B8)) (w : World) (hv : RwsA w v rows) :
    Calls Try.prog 36 #[v] w fun e w' => ∃ A c, e = .returned (.slice A (fewR rows).length c) ∧ OwnRs (fun w' v bs => Own8 w' w.heap.size v bs) w' w.heap.size (.slice A (fewR rows).length c) (fewR rows) ∧ Below w.heap.size w w' :=
  (fewR_calls v rows w hv).mono (by
    rintro e w' ⟨v', rfl, ho, hb⟩
    obtain ⟨A, c, rfl, _⟩ := ho.shape
    exact ⟨A, c, rfl, ho, hb⟩)
theorem join_ok (v : Value) (rows : List (List B8)) (w : World) (hv : RwsA w v rows) (hn : rows.length ≤ 1000) (hok : okRows rows = true) :
    Calls Try.prog 38 #[v] w fun e w' => ∃ A c, e = .returned (.tuple #[.slice A (joinW rows).length c, .int .i64 0]) ∧ Own8 w' w.heap.size (.slice A (joinW rows).length c) (joinW rows) ∧ Below w.heap.size w w' :=
  (join_calls v rows w hv hn).mono (by
    rintro e w' ⟨v', rfl, ho, hb⟩
    have hr : joinO rows = .ok (joinW rows) := if_pos hok
    rw [hr] at ho ⊢
    obtain ⟨A, c, rfl, hc, _⟩ := id ho.bys
    exact ⟨A, c, rfl, ho, hb⟩)
theorem join_no (v : Value) (rows : List (List B8)) (w : World) (hv : RwsA w v rows) (hn : rows.length ≤ 1000) (hok : okRows rows = false) :
    Calls Try.prog 38 #[v] w fun e w' => ∃ A c, e = .returned (.tuple #[.slice A 0 c, .int .i64 3]) ∧ Below w.heap.size w w' :=
  (join_calls v rows w hv hn).mono (by
    rintro e w' ⟨v', rfl, ho, hb⟩
    have hr : joinO rows = .error 3 := if_neg (by rw [hok]; exact Bool.false_ne_true)
    rw [hr] at ho ⊢
    obtain ⟨A, c, rfl, hc, _⟩ := id ho.bys
    exact ⟨A, c, rfl, hb⟩)
theorem same_yes (v1 v2 : Value) (a : List (List B8)) (w : World) (h1 : RwsA w v1 a) (h2 : RwsA w v2 a) :
    Calls Try.prog 45 #[v1, v2] w fun e w' => e = .returned (.bool true) ∧ Below w.heap.size w w' :=
  (rsame_calls v1 v2 a a w h1 h2).mono (by
    rintro e w' ⟨rfl, hb⟩
    rw [decide_eq_true rfl]
    exact ⟨rfl, hb⟩)
/-- Scan, where what holds is known -/
theorem scan_at (A : Option Addr) (c n : Nat) (bs : List B8) (rows : List (List B8)) (k : Nat) (w : World) (hb : Bt w (.slice A n c) bs) (hl : bs.length ≤ 1000000) (h1 : heldL (recAt bs 0) = rows) (h2 : endW bs = k) :
    Calls Try.prog 46 #[.slice A n c] w fun e w' => ∃ A' c', e = .returned (.tuple #[.slice A' rows.length c', .int .i64 (k : Int)]) ∧ OwnRs (fun W v bs => Own8 W w.heap.size v bs) w' w.heap.size (.slice A' rows.length c') rows ∧ Below w.heap.size w w' := by
  obtain ⟨A1, c1, e, _⟩ := hb.1
  cases e
  subst h1 h2
  exact scan_calls' A c bs w hb hl
theorem why_at (A : Option Addr) (c n : Nat) (bs : List B8) (k : Nat) (y : Int) (w : World) (hb : Bt w (.slice A n c) bs) (hl : bs.length ≤ 1000000) (h1 : whyW bs = y) (h2 : endW bs = k) :
    Calls Try.prog 47 #[.slice A n c] w fun e w' => e = .returned (.tuple #[.int .i64 (k : Int), .int .i64 y]) ∧ Below w.heap.size w w' := by
  subst h1 h2
  exact why_calls _ bs w hb hl
/-- a front of what was joined, c bytes: k whole records, at bytes -/
structure FrontAt (fr : List (List B8)) (c k at_ : Nat) : Prop where
  le : k ≤ fr.length
  len : at_ = (joinW (fr.take k)).length
  in_ : at_ ≤ c
theorem joinW_append (a b : List (List B8)) : joinW (a ++ b) = joinW a ++ joinW b := by simp [joinW]
theorem FrontAt.start (fr : List (List B8)) (c : Nat) : FrontAt fr c 0 0 := ⟨Nat.zero_le _, by simp [joinW], Nat.zero_le _⟩
theorem FrontAt.next {fr : List (List B8)} {c k at_ : Nat} (h : FrontAt fr c k at_) (hk : k < fr.length) (hl : at_ + (rowAt fr k).length + 8 ≤ c) : FrontAt fr c (k + 1) (at_ + ((rowAt fr k).length + 8)) :=
  ⟨hk, by rw [joinW_snoc fr k hk, List.length_append, recW_length, ← h.len], by omega⟩
/-- where it ends -/
def FrontEnd (fr : List (List B8)) (c k at_ : Nat) : Prop := ∃ rest, (joinW fr).take c = joinW (fr.take k) ++ rest ∧ firstW rest = .error 110 ∧ rest.length = c - at_
theorem FrontAt.whole {fr : List (List B8)} {c at_ : Nat} (h : FrontAt fr c fr.length at_) (hc : c ≤ (joinW fr).length) : FrontEnd fr c fr.length at_ ∧ at_ = c := by
  have hl := h.len
  rw [List.take_length] at hl
  have hi := h.in_
  have e : at_ = c := by omega
  refine ⟨⟨[], ?_, first_short _ (by decide), by simp; omega⟩, e⟩
  rw [List.take_length, List.append_nil, List.take_of_length_le (by omega)]
theorem FrontAt.torn {fr : List (List B8)} {c k at_ : Nat} (h : FrontAt fr c k at_) (hc : c ≤ (joinW fr).length) (hok : ∀ r, r ∈ fr → r.length ≤ 65536) (hk : k < fr.length) (hl : ¬ at_ + (rowAt fr k).length + 8 ≤ c) : FrontEnd fr c k at_ := by
  have e : joinW fr = joinW (fr.take k) ++ (recW (rowAt fr k) ++ joinW (fr.drop (k + 1))) := by
    have h1 : fr = fr.take k ++ (rowAt fr k :: fr.drop (k + 1)) := by
      have := List.take_append_drop k fr
      rw [List.drop_eq_getElem_cons hk] at this
      rw [rowAt, List.getD_eq_getElem?_getD, List.getElem?_eq_getElem hk]
      exact this.symm
    have h2 := congrArg joinW h1
    rw [joinW_append] at h2
    rw [h2]
    simp [joinW]
  have hi := h.in_
  have hln := h.len
  refine ⟨(recW (rowAt fr k)).take (c - at_), ?_, first_torn _ _ (by omega) (hok _ (rowAt_mem hk)), by rw [List.length_take, recW_length]; omega⟩
  rw [e, List.take_append, ← hln, List.take_of_length_le (by omega), List.take_append, recW_length]
  rw [show c - at_ - ((rowAt fr k).length + 8) = 0 by omega, List.take_zero, List.append_nil]
theorem FrontEnd.held {fr : List (List B8)} {c k at_ : Nat} (h : FrontEnd fr c k at_) (hok : ∀ r, r ∈ fr → r.length ≤ 65536) : heldL (recAt ((joinW fr).take c) 0) = fr.take k := by
  obtain ⟨rest, h1, h2, h3⟩ := h
  rw [h1]
  exact held_joined _ _ 110 (fun r hr => hok r (List.mem_of_mem_take hr)) h2
theorem FrontEnd.ends {fr : List (List B8)} {c k at_ : Nat} (h : FrontEnd fr c k at_) (hok : ∀ r, r ∈ fr → r.length ≤ 65536) (hl : at_ = (joinW (fr.take k)).length) : endW ((joinW fr).take c) = at_ := by
  obtain ⟨rest, h1, h2, h3⟩ := h
  rw [h1, hl]
  exact end_joined _ _ 110 (fun r hr => hok r (List.mem_of_mem_take hr)) h2
theorem FrontEnd.why {fr : List (List B8)} {c k at_ : Nat} (h : FrontEnd fr c k at_) (hok : ∀ r, r ∈ fr → r.length ≤ 65536) (hi : at_ ≤ c) : whyW ((joinW fr).take c) = if at_ = c then 0 else 110 := by
  obtain ⟨rest, h1, h2, h3⟩ := h
  rw [h1]
  by_cases he : at_ = c
  · rw [if_pos he]
    have : rest = [] := List.eq_nil_of_length_eq_zero (by omega)
    subst this
    rw [List.append_nil]
    exact why_whole _ (fun r hr => hok r (List.mem_of_mem_take hr))
  · rw [if_neg he]
    exact why_joined _ _ 110 (fun r hr => hok r (List.mem_of_mem_take hr)) h2 (fun e => by rw [e] at h3; simp at h3; omega)
end Go.Proofs.Ytnhmhnejglpijaa
