/- journal: the plain laws of records. No program in sight. -/
import Derived.Test.YtnhmhnejglpijaaQx
import Derived.Test.YtnhmhnejglpijaaMc
namespace Go.Proofs.Ytnhmhnejglpijaa
open Go.RowKit
set_option linter.unusedSimpArgs false
set_option linter.unusedVariables false
theorem numB_lay4 (n : Nat) (h : n < 4294967296) : numB (layW 4 n) = n := by
  have e : layW 4 n = [byteN n 3, byteN n 2, byteN n 1, byteN n 0] := rfl
  rw [e]
  simp only [numB, List.foldl_cons, List.foldl_nil, byteN, BitVec.toNat_ofNat]
  simp only [Nat.mul_zero, Nat.mul_one, Nat.reduceMul, Nat.reducePow, Nat.div_one]
  omega
theorem recW_take4 (r rest : List B8) : (recW r ++ rest).take 4 = layW 4 r.length := by
  have h : (layW 4 r.length).length = 4 := layW_length 4 _
  rw [recW, sealW, List.append_assoc, List.append_assoc, List.take_left' h]
theorem first_rec (r rest : List B8) (h : r.length ≤ 65536) : firstW (recW r ++ rest) = .ok r := by
  have hl := recW_length r
  unfold firstW
  rw [recW_take4, numB_lay4 _ (by omega), if_neg (by rw [List.length_append]; omega), if_neg (by omega), if_neg (by rw [List.length_append]; omega)]
  rw [List.take_left' hl]
  have ho : openedW (recW r) = some (layW 4 r.length ++ r) := opened_sealed _
  rw [ho]
  simp only
  rw [List.drop_left' (layW_length 4 _)]
theorem first_short (bs : List B8) (h : bs.length < 4) : firstW bs = .error 110 := by rw [firstW, if_pos h]
theorem first_torn (r : List B8) (m : Nat) (hm : m < r.length + 8) (h : r.length ≤ 65536) : firstW ((recW r).take m) = .error 110 := by
  have hl := recW_length r
  have hlt : ((recW r).take m).length = m := by rw [List.length_take]; omega
  by_cases h4 : m < 4
  · exact first_short _ (by omega)
  · unfold firstW
    have h1 : ((recW r).take m).take 4 = layW 4 r.length := by
      rw [List.take_take, Nat.min_eq_left (by omega)]
      have := recW_take4 r []
      rwa [List.append_nil] at this
    rw [h1, numB_lay4 _ (by omega), if_neg (by omega), if_neg (by omega), if_pos (by omega)]
/-- the records of rows, one behind the other from k on -/
def placed : List (List B8) → Nat → List (Nat × List B8)
  | [], _ => []
  | r :: rows, k => (k, r) :: placed rows (k + (r.length + 8))
theorem placed_held (rows : List (List B8)) : ∀ k, heldL (placed rows k) = rows := by
  induction rows with
  | nil => intro k; rfl
  | cons r rows ih => intro k; simp only [placed, heldL, List.map_cons] at *; rw [ih]
theorem placed_end (rows : List (List B8)) : ∀ k, endL (placed rows k) = (joinW rows).length := by
  induction rows with
  | nil => intro k; rfl
  | cons r rows ih =>
    intro k
    have h := ih (k + (r.length + 8))
    simp only [placed, endL, List.map_cons, List.sum_cons, joinW, List.flatten_cons, List.length_append, recW_length] at *
    omega
theorem rec_joined (bs rest : List B8) (n : Int) (hr : firstW rest = .error n) : ∀ (rows : List (List B8)) (k : Nat), (∀ r, r ∈ rows → r.length ≤ 65536) → k ≤ bs.length → bs.drop k = joinW rows ++ rest → recAt bs k = placed rows k := by
  intro rows
  induction rows with
  | nil =>
    intro k _ hk hd
    have : bs.drop k = rest := by rw [hd]; rfl
    rw [placed]
    exact recAt_err hk (n := n) (by rw [this, hr])
  | cons r rows ih =>
    intro k hok hk hd
    have e : bs.drop k = recW r ++ (joinW rows ++ rest) := by rw [hd, joinW, List.map_cons, List.flatten_cons, List.append_assoc]; rfl
    have hf : firstW (bs.drop k) = .ok r := by rw [e, first_rec _ _ (hok r (by simp))]
    have hlen := congrArg List.length e
    rw [List.length_drop, List.length_append, recW_length] at hlen
    rw [recAt_ok hk hf, placed]
    congr 1
    refine ih _ (fun x hx => hok x (by simp [hx])) (by omega) ?_
    rw [← List.drop_drop, e, List.drop_left' (recW_length r)]
theorem scan_joined (rows : List (List B8)) (rest : List B8) (n : Int) (hok : ∀ r, r ∈ rows → r.length ≤ 65536) (hr : firstW rest = .error n) : recAt (joinW rows ++ rest) 0 = placed rows 0 :=
  rec_joined _ rest n hr rows 0 hok (Nat.zero_le _) rfl
theorem end_joined (rows : List (List B8)) (rest : List B8) (n : Int) (hok : ∀ r, r ∈ rows → r.length ≤ 65536) (hr : firstW rest = .error n) : endW (joinW rows ++ rest) = (joinW rows).length := by
  rw [endW, scan_joined rows rest n hok hr, placed_end]
theorem held_joined (rows : List (List B8)) (rest : List B8) (n : Int) (hok : ∀ r, r ∈ rows → r.length ≤ 65536) (hr : firstW rest = .error n) : heldL (recAt (joinW rows ++ rest) 0) = rows := by
  rw [scan_joined rows rest n hok hr, placed_held]
theorem why_joined (rows : List (List B8)) (rest : List B8) (n : Int) (hok : ∀ r, r ∈ rows → r.length ≤ 65536) (hr : firstW rest = .error n) (h0 : rest ≠ []) : whyW (joinW rows ++ rest) = n := by
  have he := end_joined rows rest n hok hr
  have hp : 0 < rest.length := List.length_pos_iff.2 h0
  rw [whyW, he, if_neg (by rw [List.length_append]; omega), List.drop_left' rfl, hr]
  rfl
theorem why_whole (rows : List (List B8)) (hok : ∀ r, r ∈ rows → r.length ≤ 65536) : whyW (joinW rows) = 0 := by
  have he := end_joined rows [] 110 hok (first_short _ (by decide))
  rw [List.append_nil] at he
  rw [whyW, if_pos he]
end Go.Proofs.Ytnhmhnejglpijaa
