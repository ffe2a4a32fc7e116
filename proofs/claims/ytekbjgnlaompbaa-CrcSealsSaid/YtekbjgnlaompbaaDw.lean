/- Arrays of four bytes, compared. -/
import Derived.Test.YtekbjgnlaompbaaMb
import Derived.ChangeKeysEq
namespace Go.Proofs.Ytekbjgnlaompbaa
open Go.RowKit Go.ChangeShapes
set_option linter.unusedSimpArgs false
theorem Try.cells5' : Try.prog.cellsOf 5 = 1 := by kernel_rfl
theorem items5 (x y : Int) (i : Nat) (xs ys : Array Value) (is : List Nat) (w : World) (hx : xs[i]? = some (.int .u8 x)) (hy : ys[i]? = some (.int .u8 y)) :
    (Op.eqItems 9999 5 1 xs ys (i :: is)).run Try.prog w = if x = y then (Op.eqItems 9999 5 1 xs ys is).run Try.prog w else .ok false w := by
  have hp : ∀ (zs : Array Value) (v : Value) (w : World), zs[i]? = some v → (part 5 zs (i * 1)).run Try.prog w = .ok v w := by
    intro zs v w h
    rw [Nat.mul_one]
    unfold part
    simp [h]
  have he := run_equalIn_int (P := Try.prog) w 9998 5 .u8 .u8 x y Try.underlying5
  rw [Op.eqItems]
  simp only [Sem.run_bind, hp xs _ _ hx, hp ys _ _ hy, Result.andThen_ok]
  rw [show (9999 : Nat) = 9998 + 1 from rfl, he]
  by_cases h : x = y
  · simp [h]
  · simp [h]
theorem equal26 (a b c d a' b' c' d' : Int) (w : World) : (Op.equal 26 (.agg #[.int .u8 a, .int .u8 b, .int .u8 c, .int .u8 d]) (.agg #[.int .u8 a', .int .u8 b', .int .u8 c', .int .u8 d'])).run Try.prog w = .ok (a == a' && (b == b' && (c == c' && d == d'))) w := by
  obtain ⟨i, hi⟩ : ∃ i, Try.prog.info? 5 = some i := by
    cases h : Try.prog.info? 5 with
    | none =>
      have := Try.info5
      rw [h] at this
      cases this
    | some i => exact ⟨i, rfl⟩
  have r4 : List.range 4 = [0, 1, 2, 3] := rfl
  show (Op.equalIn (9999 + 1) 26 _ _).run Try.prog w = _
  rw [run_equalIn_array w 9999 _ _ Try.underlying26 hi, Try.cells5', r4]
  rw [items5 a a' 0 _ _ _ w rfl rfl]
  by_cases h1 : a = a'
  · rw [if_pos h1, items5 b b' 1 _ _ _ w rfl rfl]
    by_cases h2 : b = b'
    · rw [if_pos h2, items5 c c' 2 _ _ _ w rfl rfl]
      by_cases h3 : c = c'
      · rw [if_pos h3, items5 d d' 3 _ _ _ w rfl rfl]
        by_cases h4 : d = d'
        · simp [h1, h2, h3, h4, Op.eqItems]
        · simp [h1, h2, h3, h4]
      · simp [h1, h2, h3]
    · simp [h1, h2]
  · simp [h1]
theorem equal26v (x y : W32) (w : World) : (Op.equalIn 10000 26 (fourV x) (fourV y)).run Try.prog w = .ok (decide (x = y)) w := by
  simp only [fourV]
  rw [show Op.equalIn 10000 = Op.equal from rfl, equal26]
  congr 1
  rw [Bool.eq_iff_iff]
  simp only [Bool.and_eq_true, beq_iff_eq, decide_eq_true_eq]
  constructor
  · rintro ⟨h0, h1, h2, h3⟩
    apply fourB_inj
    simp only [fourB]
    rw [bn_inj h0, bn_inj h1, bn_inj h2, bn_inj h3]
  · rintro rfl
    exact ⟨rfl, rfl, rfl, rfl⟩
theorem eql26 (x y : W32) (w : World) : (binOp .eql 26 (fourV x) (fourV y)).run Try.prog w = .ok (.bool (decide (x = y))) w := by
  have h := equal26v x y w
  simp only [fourV] at h
  simp only [fourV, run_eql_struct, h, Result.andThen_ok]
theorem neq26 (x y : W32) (w : World) : (binOp .neq 26 (fourV x) (fourV y)).run Try.prog w = .ok (.bool (!decide (x = y))) w := by
  have h := equal26v x y w
  simp only [fourV] at h
  simp only [fourV, run_neq_struct, h, Result.andThen_ok]
end Go.Proofs.Ytekbjgnlaompbaa
