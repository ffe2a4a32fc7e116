/- Bytes of the call's own; sums, clones. -/
import Derived.Test.YtekbjgnlaompbaaCf
import Derived.Laws.AppendOwnNone
import Derived.Laws.CopyOwn
import Derived.Maps.AppendAt
import Derived.Lib.SliceRun
namespace Go.Proofs.Ytekbjgnlaompbaa
open Go.RowKit
def bvals (bs : List B8) : List Value := bs.map fun b => .int .u8 (bn b)
theorem bvals_length (bs : List B8) : (bvals bs).length = bs.length := by simp [bvals]
theorem bvals_append (a b : List B8) : bvals (a ++ b) = bvals a ++ bvals b := by simp [bvals]
theorem bvals_get (bs : List B8) (j : Nat) (h : j < bs.length) : (bvals bs)[j]? = some (.int .u8 (bn (byteAt bs j))) := by simp [bvals, byteAt, h]
theorem bvals_one (bs : List B8) : ∀ u ∈ bvals bs, u.oneCell' = true := by
  intro u hu
  simp only [bvals, List.mem_map] at hu
  obtain ⟨b, _, rfl⟩ := hu
  rfl
theorem bvals_get' {bs : List B8} {j : Nat} {u : Value} (h : (bvals bs)[j]? = some u) : j < bs.length ∧ u = .int .u8 (bn (byteAt bs j)) := by
  have hj : j < bs.length := by have := (List.getElem?_eq_some_iff.1 h).1; rwa [bvals_length] at this
  rw [bvals_get bs j hj] at h
  exact ⟨hj, (Option.some.inj h).symm⟩
/-- The slice v holds the bytes bs, in a block of the call's own (from B on), or is nil. -/
def Own8 (w : World) (B : Nat) (v : Value) (bs : List B8) : Prop := w.ownsRow B 5 1 v bs.length (bvals bs)
theorem add_plain (g j : Nat) : (⟨g, 0, none⟩ : Addr).add j = ⟨g, j, none⟩ := by unfold Addr.add; split <;> simp_all
theorem add_off (g o j : Nat) : (⟨g, o, none⟩ : Addr).add j = ⟨g, o + j, none⟩ := by unfold Addr.add; split <;> simp_all
theorem Own8.bys {w : World} {B : Nat} {v : Value} {bs : List B8} (h : Own8 w B v bs) : Bys w v bs := by
  have hc := fun g => World.ownsRow.cells h (g := g)
  rcases h.2 with ⟨rfl, hn⟩ | ⟨g, cap, cur, rfl, hb, hgg, hnc, hcm, _⟩
  · exact ⟨none, 0, by rw [hn], by omega, by simp [maxLen], fun _ => rfl, fun h => by omega⟩
  · refine ⟨_, cap, rfl, hnc, hcm, (fun h => by cases h), fun _ => ⟨g, 0, rfl, fun j hj => ?_⟩⟩
    have := hc g rfl j _ (bvals_get bs j hj)
    rw [add_plain] at this
    rw [Nat.zero_add]
    exact this
theorem Own8.nil (w : World) (B : Nat) : Own8 w B (.slice none 0 0) [] := World.ownsRow_nil w B 5 1
theorem Own8.lt {w : World} {B : Nat} {v : Value} {bs : List B8} (h : Own8 w B v bs) : ∀ k, v.ownBlock = some k → B ≤ k ∧ k < w.heap.size := World.ownsRow.lt h
theorem Own8.mod {w w' : World} {B : Nat} {v : Value} {bs : List B8} {L : List Nat} (h : Own8 w B v bs) (hm : Mod L w w') (hL : ∀ k, v.ownBlock = some k → k ∉ L) : Own8 w' B v bs := by
  refine ⟨h.1, ?_⟩
  rcases h.2 with hn | ⟨g, cap, cur, rfl, hb, hgg, rest⟩
  · exact .inl hn
  · refine .inr ⟨g, cap, cur, rfl, hb, ?_, rest⟩
    rw [hm.block g (lt_of_heap hgg) (hL g rfl)]
    exact hgg
theorem Own8.alloc {w : World} {B : Nat} {v : Value} {bs : List B8} (h : Own8 w B v bs) (o : Obj) : Own8 (w.alloc o) B v bs := World.ownsRow.alloc h o
theorem Try.info5 : (Try.prog.info? 5).map (fun i => (i.zero, i.size, i.bytes)) = some (some (.int .u8 0), 1, 1) := by kernel_rfl
/-- append of bytes to bytes of the call's own -/
theorem wpList_app8 {w : World} {ops : Array Oper} {rest : List Oper} {o : Oper} {a : Act} {Q : Exit → Act → World → Prop} (hgd : o.guard = none) (s x : Operand)
    (ho : o.op = .call { callee := .builtin .append, args := #[s, x], argTypes := #[29, 29] }) (B : Nat) (v xv : Value) (bs cs : List B8) (hs : a.eval s = v) (hown : Own8 w B v bs) (hx : a.eval x = xv) (hxb : Bys w xv cs)
    (hlen : bs.length + cs.length ≤ 140737488355328) (hbase : B ≤ w.heap.size)
    (h : ∀ v' w', Own8 w' B v' (bs ++ cs) → w.grownBy w' v.ownBlock → (v'.ownBlock = v.ownBlock ∨ v'.ownBlock = some w.heap.size) → wpList Try.prog ops Q rest (a.put o.dst v') w') : wpList Try.prog ops Q (o :: rest) a w := by
  obtain ⟨i0, hi, hz0, hz1, hz2⟩ := info_parts Try.info5
  obtain ⟨A, cap, rfl, hc1, hc2, hc3, hc4⟩ := hxb
  cases A with
  | none =>
    have hcap := hc3 rfl
    subst hcap
    obtain rfl : cs = [] := List.eq_nil_of_length_eq_zero (by omega)
    refine wpList_append_own_none hgd s x 29 ho B 5 i0 1 Try.underlying29 hi v _ _ hs hown hx ?_
    refine h v w (by simpa using hown) ⟨rfl, rfl, rfl, Nat.le_refl _, fun _ _ _ => rfl⟩ (.inl rfl)
  | some ad =>
    refine wpList_append_own_at w hgd s x 29 ho B 5 i0 (.int .u8 0) 1 1 Try.underlying29 hi hz0 hz1 hz2 rfl (by decide) v _ _ hs hown ad cs.length cap (bvals cs) hx (by rw [bvals_length]; omega) ?_ (bvals_one cs) (by unfold maxLen; omega) (by omega) hbase ?_
    · intro j u hu
      obtain ⟨hj, rfl⟩ := bvals_get' hu
      obtain ⟨b, off, e, hc⟩ := hc4 (by omega)
      obtain rfl := Option.some.inj e
      rw [add_off]
      exact hc j hj
    · intro v' w' h1 h2 _ h4
      refine h v' w' ?_ h2 h4
      unfold Own8
      rw [bvals_append, List.length_append]
      exact h1
/-- what is made of zeros is bytes -/
theorem madeCells_bytes (n : Nat) : (madeCells #[.int .u8 0] n).toList = bvals (List.replicate n 0#8) := by
  rw [toList_madeCells_one]
  simp [bvals, bn]
end Go.Proofs.Ytekbjgnlaompbaa
