/- gessolaw23.wakes: what it calls, on its own bytes. -/
import Derived.Test.YtnhmhnejglpijaaQy
namespace Go.Proofs.Ytnhmhnejglpijaa
open Go.RowKit
set_option maxRecDepth 100000
set_option linter.unusedSimpArgs false
set_option linter.unusedVariables false
def wk56 : List B8 := [5#8, 6#8]
def wk5 : List B8 := [5#8]
def wk67 : List B8 := [6#8, 7#8]
def wkRows : List (List B8) := [wk5, wk67]
def wkJ : List B8 := joinW wkRows
def wkF : List B8 := wkJ.take 18
theorem wkRows_ok : ∀ r, r ∈ wkRows → r.length ≤ 65536 := by
  intro r hr
  simp only [wkRows, List.mem_cons, List.not_mem_nil, or_false] at hr
  rcases hr with rfl | rfl <;> decide
theorem wkJ_len : wkJ.length = 19 := by
  have : wkJ = recW wk5 ++ (recW wk67 ++ []) := rfl
  rw [this, List.length_append, List.length_append, recW_length, recW_length]
  rfl
theorem wkF_eq : wkF = joinW [wk5] ++ (recW wk67).take 9 := by
  have h : wkJ = recW wk5 ++ recW wk67 := by
    have : wkJ = recW wk5 ++ (recW wk67 ++ []) := rfl
    rw [this, List.append_nil]
  have h2 : joinW [wk5] = recW wk5 := by
    have : joinW [wk5] = recW wk5 ++ [] := rfl
    rw [this, List.append_nil]
  have h3 : (recW wk5).length = 9 := recW_length _
  rw [wkF, h, h2, List.take_append, h3, List.take_of_length_le (by omega)]
theorem wkF_len : wkF.length = 18 := by rw [wkF, List.length_take, wkJ_len]; rfl
theorem wk5_ok : ∀ r, r ∈ [wk5] → r.length ≤ 65536 := by
  intro r hr
  simp only [List.mem_cons, List.not_mem_nil, or_false] at hr
  subst hr
  decide
theorem wk_torn : firstW ((recW wk67).take 9) = .error 110 := first_torn _ 9 (by decide) (by decide)
theorem wkF_held : heldL (recAt wkF 0) = [wk5] := by rw [wkF_eq]; exact held_joined _ _ 110 wk5_ok wk_torn
theorem wkF_end : endW wkF = 9 := by
  rw [wkF_eq, end_joined _ _ 110 wk5_ok wk_torn]
  have : joinW [wk5] = recW wk5 ++ [] := rfl
  rw [this, List.append_nil, recW_length]
  rfl
theorem wkF_why : whyW wkF = 110 := by
  rw [wkF_eq]
  refine why_joined _ _ 110 wk5_ok wk_torn ?_
  have h : ((recW wk67).take 9).length = 9 := by rw [List.length_take, recW_length]; rfl
  intro e
  rw [e] at h
  cases h
theorem wkF_app : appO wkF [] = .error 2 := by rw [appO, wkF_why]; rfl
theorem wkJ0_end : endW (wkJ ++ [0#8]) = 19 := by
  rw [wkJ, end_joined wkRows [0#8] 110 wkRows_ok (first_short _ (by decide))]
  exact wkJ_len
theorem wkJ0_why : whyW (wkJ ++ [0#8]) = 110 := why_joined wkRows [0#8] 110 wkRows_ok (first_short _ (by decide)) (by decide)
theorem wk_f1 : firstW [0#8, 0#8, 0#8] = .error 110 := first_short _ (by decide)
theorem wk_f2 : firstW [0#8, 1#8, 0#8, 1#8] = .error 3 := by
  have h : 65536 < numB (List.take 4 [0#8, 1#8, 0#8, 1#8]) := by decide
  rw [firstW, if_neg (by decide), if_pos h]
theorem wk_f3 : firstW [0#8, 0#8, 0#8, 0#8, 1#8, 1#8, 1#8, 1#8] = .error 120 := by
  have h : openedW [0#8, 0#8, 0#8, 0#8, 1#8, 1#8, 1#8, 1#8] = none := by decide +kernel
  have e : firstW [0#8, 0#8, 0#8, 0#8, 1#8, 1#8, 1#8, 1#8] = match openedW [0#8, 0#8, 0#8, 0#8, 1#8, 1#8, 1#8, 1#8] with | none => .error 120 | some l => .ok (l.drop 4) := rfl
  rw [e, h]
theorem lit_bys (w : World) (bs : List B8) (hl : bs.length ≤ 100) : Bys (w.alloc (.cells (bvals bs).toArray 5)) (.slice (some ⟨w.heap.size, 0, none⟩) bs.length bs.length) bs := bys_of_heap (new_here w _) (by unfold maxLen; omega)
theorem wk_rec (v : Value) (w : World) (hv : Bys w v wk56) : Calls Try.prog 40 #[v] w fun e w' => ∃ A c, e = .returned (.tuple #[.slice A 10 c, .int .i64 0]) ∧ Below w.heap.size w w' :=
  (record_calls v wk56 w hv).mono (by
    rintro e w' ⟨v', rfl, ho, hb⟩
    have hr : recO wk56 = .ok (recW wk56) := if_pos (by decide)
    rw [hr] at ho ⊢
    obtain ⟨A, c, rfl, _⟩ := ho.bys
    have hl : (Out.get [] (.ok (recW wk56) : Out (List B8))).length = 10 := recW_length _
    exact ⟨A, c, by rw [hl]; rfl, hb⟩)
theorem wk_join (v : Value) (w : World) (hv : RwsA w v wkRows) : Calls Try.prog 38 #[v] w fun e w' => ∃ (A : Option Addr) (c : Nat), (18 : Int) ≤ (c : Int) ∧ e = .returned (.tuple #[.slice A 19 c, .int .i64 0]) ∧ Own8 w' w.heap.size (.slice A 19 c) wkJ ∧ Below w.heap.size w w' :=
  (join_calls v wkRows w hv (by decide)).mono (by
    rintro e w' ⟨v', rfl, ho, hb⟩
    have hr : joinO wkRows = .ok wkJ := if_pos (by decide)
    rw [hr] at ho ⊢
    obtain ⟨A, c, rfl, hc, _⟩ := id ho.bys
    have hl : (Out.get [] (.ok wkJ : Out (List B8))).length = 19 := wkJ_len
    rw [hl] at ho hc
    exact ⟨A, c, by omega, by rw [hl]; rfl, ho, hb⟩)
theorem wk_scan (v : Value) (w : World) (hv : Bt w v wkF) : Calls Try.prog 46 #[v] w fun e w' => ∃ g c A5 c5, e = .returned (.tuple #[.slice (some ⟨g, 0, none⟩) 1 c, .int .i64 9]) ∧ w'.cell? ⟨g, 0, none⟩ = some (.slice A5 1 c5) ∧ Bys w' (.slice A5 1 c5) wk5 ∧ Below w.heap.size w w' :=
  (scan_calls v wkF w hv (by rw [wkF_len]; decide)).mono (by
    rintro e w' ⟨v', rfl, ho, hb⟩
    have he : endL (recAt wkF 0) = 9 := wkF_end
    rw [wkF_held] at ho
    rw [he]
    have hr := ho.rws (el_own _)
    obtain ⟨A, c, rfl, _, _, hc⟩ := hr
    obtain ⟨b, off, rfl, hcc⟩ := hc (by decide)
    obtain ⟨sv, h1, h2⟩ := hcc 0 (by decide)
    obtain ⟨_, _, e, _, _, hg⟩ := ho.shape
    cases e
    obtain ⟨g, e, _⟩ := hg (by decide)
    cases e
    obtain ⟨A5, c5, rfl, _⟩ := id h2
    exact ⟨b, c, A5, c5, rfl, h1, h2, hb⟩)
theorem wk_first (v : Value) (bs : List B8) (n : Int) (w : World) (hv : Bys w v bs) (hl : bs.length ≤ 100) (hf : firstW bs = .error n) : Calls Try.prog 52 #[v] w fun e w' => ∃ v', e = .returned (.tuple #[v', .int .i64 0, .int .i64 n]) ∧ Below w.heap.size w w' :=
  (jfirst_calls v bs w hv (by omega)).mono (by
    rintro e w' ⟨v', rfl, ho, hb⟩
    rw [hf]
    exact ⟨v', rfl, hb⟩)
theorem wk_why (v : Value) (w : World) (hv : Bt w v (wkJ ++ [0#8])) : Calls Try.prog 47 #[v] w fun e w' => e = .returned (.tuple #[.int .i64 19, .int .i64 110]) ∧ Below w.heap.size w w' :=
  (why_calls v (wkJ ++ [0#8]) w hv (by rw [List.length_append, wkJ_len]; decide)).mono (by
    rintro e w' ⟨rfl, hb⟩
    rw [wkJ0_end, wkJ0_why]
    exact ⟨rfl, hb⟩)
theorem wk_append (v : Value) (w : World) (hv : Bt w v wkF) : Calls Try.prog 43 #[v, .slice none 0 0] w fun e w' => ∃ v', e = .returned (.tuple #[v', .int .i64 2]) ∧ Below w.heap.size w w' :=
  (append_calls v (.slice none 0 0) wkF [] w hv ⟨none, 0, rfl, Nat.le_refl _, by unfold maxLen; omega, fun h => absurd h (by decide)⟩ (by rw [wkF_len]; decide) (by decide)).mono (by
    rintro e w' ⟨v', rfl, ho, hb⟩
    rw [wkF_app]
    exact ⟨v', rfl, hb⟩)
end Go.Proofs.Ytnhmhnejglpijaa
