/- Rows laid up one by one, and all of their bytes. -/
import Derived.Test.YtekbjgnlaompbaaDx
namespace Go.Proofs.Ytekbjgnlaompbaa
open Go.RowKit
set_option linter.unusedSimpArgs false
theorem Try.info29 : (Try.prog.info? 29).map (fun i => (i.zero, i.size, i.bytes)) = some (some (.slice none 0 0), 1, 24) := by kernel_rfl
/-- append of one row to rows of the call's own -/
theorem wpList_app43 {w : World} {ops : Array Oper} {rest : List Oper} {o : Oper} {a : Act} {Q : Exit → Act → World → Prop} (hgd : o.guard = none) (s x : Operand)
    (ho : o.op = .call { callee := .builtin .append, args := #[s, x], argTypes := #[43, 43] }) (B : Nat) (v : Value) (k : Nat) (vs : List Value) (u : Value) (a0 : Nat) (hs : a.eval s = v) (hown : w.ownsRow B 29 1 v k vs)
    (hx : a.eval x = .slice (some ⟨a0, 0, none⟩) 1 1) (hc : w.cell? ⟨a0, 0, none⟩ = some u) (hu : u.oneCell' = true) (hlen : k ≤ 1000) (hbase : B ≤ w.heap.size)
    (h : ∀ v' w', w'.ownsRow B 29 1 v' (k + 1) (vs ++ [u]) → w.grownBy w' v.ownBlock → (v'.ownBlock = v.ownBlock ∨ v'.ownBlock = some w.heap.size) → wpList Try.prog ops Q rest (a.put o.dst v') w') : wpList Try.prog ops Q (o :: rest) a w := by
  obtain ⟨i0, hi, hz0, hz1, hz2⟩ := info_parts Try.info29
  refine wpList_append_own_at w hgd s x 43 ho B 29 i0 (.slice none 0 0) 1 24 Try.underlying43 hi hz0 hz1 hz2 rfl (by decide) v _ _ hs hown ⟨a0, 0, none⟩ 1 1 [u] hx (by simp) ?_ (by simpa using hu) (by unfold maxLen; omega) (by omega) hbase ?_
  · intro j u' hu'
    match j, hu' with
    | 0, e =>
      cases e
      exact hc
  · intro v' w' h1 h2 _ h4
    exact h v' w' h1 h2 h4
theorem grown_of_below {w w' : World} (h : Below w.heap.size w w') : w.grownBy w' none := ⟨h.os, h.tape, h.output, h.size, fun k hk _ => h.block k hk⟩
theorem owns_below {w w' : World} {B e s n : Nat} {v : Value} {xs : List Value} (h : w.ownsRow B e s v n xs) (hb : Below w.heap.size w w') : w'.ownsRow B e s v n xs :=
  h.kept (grown_of_below hb) (by cases v.ownBlock <;> simp)
theorem Own8.kept {w w' : World} {B : Nat} {v : Value} {bs : List B8} {row : Option Nat} (h : Own8 w B v bs) (hg : w.grownBy w' row) (hne : ∀ b, v.ownBlock = some b → row ≠ some b) : Own8 w' B v bs :=
  World.ownsRow.kept h hg (by
    cases hv : v.ownBlock with
    | none => exact .inl rfl
    | some b => exact .inr fun e => hne b hv e.symm)
/-- what the first loop keeps: all bytes, and the rows -/
structure SumR (W0 : World) (rs : List (List B8)) (k : Nat) (v5 v6 : Value) (w : World) : Prop where
  below : Below W0.heap.size W0 w
  all : Own8 w W0.heap.size v5 (rs.take k).flatten
  own : ∃ vs, w.ownsRow W0.heap.size 29 1 v6 k vs ∧ ∀ j, j < k → ∃ u, vs[j]? = some u ∧ Own8 w W0.heap.size u (rs.getD j []) ∧ ∀ b, u.ownBlock = some b → v5.ownBlock ≠ some b ∧ v6.ownBlock ≠ some b
  ne : ∀ b, v5.ownBlock = some b → v6.ownBlock ≠ some b
theorem SumR.start {W0 w : World} (rs : List (List B8)) (h : Below W0.heap.size W0 w) : SumR W0 rs 0 (.slice none 0 0) (.slice none 0 0) w :=
  ⟨h, Own8.nil _ _, ⟨[], World.ownsRow_nil _ _ _ _, fun j hj => absurd hj (Nat.not_lt_zero _)⟩, fun b e => by cases e⟩
theorem take_flat (rs : List (List B8)) (k : Nat) (hk : k < rs.length) : (rs.take (k + 1)).flatten = (rs.take k).flatten ++ rs.getD k [] := by
  rw [List.take_add_one, List.getD_eq_getElem?_getD, List.getElem?_eq_getElem hk]
  simp only [Option.toList_some, List.flatten_append, List.flatten_cons, List.flatten_nil, List.append_nil, Option.getD_some]
/-- one row more -/
theorem SumR.step {W0 w w1 w3 w4 w5 : World} {rs : List (List B8)} {k : Nat} {v5 v6 v1 v5' v6' : Value} {vs : List Value} (h : SumR W0 rs k v5 v6 w) (hk : k < rs.length)
    (hvs : w.ownsRow W0.heap.size 29 1 v6 k vs) (hold : ∀ j, j < k → ∃ u, vs[j]? = some u ∧ Own8 w W0.heap.size u (rs.getD j []) ∧ ∀ b, u.ownBlock = some b → v5.ownBlock ≠ some b ∧ v6.ownBlock ≠ some b)
    (hb1 : Below w.heap.size w w1) (h1 : Own8 w1 w.heap.size v1 (rs.getD k []))
    (h3 : w3.ownsRow W0.heap.size 29 1 v6' (k + 1) (vs ++ [v1])) (g3 : (w1.alloc (.cells #[v1] 29)).grownBy w3 v6.ownBlock) (e3 : v6'.ownBlock = v6.ownBlock ∨ v6'.ownBlock = some (w1.heap.size + 1))
    (hb4 : Below w3.heap.size w3 w4) (h5 : Own8 w5 W0.heap.size v5' ((rs.take k).flatten ++ rs.getD k [])) (g5 : w4.grownBy w5 v5.ownBlock) (e5 : v5'.ownBlock = v5.ownBlock ∨ v5'.ownBlock = some w4.heap.size) :
    SumR W0 rs (k + 1) v5' v6' w5 := by
  have l1 := hb1.size
  have l3 : w1.heap.size + 1 ≤ w3.heap.size := by have := g3.size; simpa using this
  have l4 := hb4.size
  have l0 := h.below.size
  have q5 := h.all.lt
  have q6 := World.ownsRow.lt hvs
  have q6' := World.ownsRow.lt h3
  have k3 : ∀ {u : Value} {bs : List B8}, Own8 w1 W0.heap.size u bs → (∀ b, u.ownBlock = some b → v5.ownBlock ≠ some b ∧ v6.ownBlock ≠ some b) → Own8 w5 W0.heap.size u bs := fun hu hn =>
    (((hu.alloc (.cells #[v1] 29)).kept g3 (fun b hb => (hn b hb).2)).below hb4).kept g5 (fun b hb => (hn b hb).1)
  refine ⟨?_, by rw [take_flat rs k hk]; exact h5, ⟨vs ++ [v1], ?_, fun j hj => ?_⟩, ?_⟩
  · have r1 := below_al (below_tr h.below hb1) (.cells #[v1] 29)
    have r3 := r1.grown g3 (by have := r1.size; exact this) (fun b e => (q6 b e).1)
    have r4 := below_tr r3 hb4
    exact r4.grown g5 r4.size (fun b e => (q5 b e).1)
  · refine World.ownsRow.kept (owns_below h3 hb4) g5 ?_
    cases hv : v6'.ownBlock with
    | none => exact .inl rfl
    | some b =>
      refine .inr fun e' => ?_
      have hb5 := q5 b e'.symm
      rcases e3 with e | e
      · exact h.ne b e'.symm (by rw [← e]; exact hv)
      · rw [hv] at e
        cases e
        omega
  · by_cases hj2 : j < k
    · obtain ⟨u, hu, ho, hn⟩ := hold j hj2
      have hlen : j < vs.length := (List.getElem?_eq_some_iff.1 hu).1
      refine ⟨u, by rw [List.getElem?_append_left hlen]; exact hu, k3 (ho.below hb1) hn, fun b hb => ?_⟩
      have hbl := ho.lt b hb
      obtain ⟨n5, n6⟩ := hn b hb
      constructor
      · rcases e5 with e | e
        · rw [e]; exact n5
        · rw [e]; intro e2; cases e2; omega
      · rcases e3 with e | e
        · rw [e]; exact n6
        · rw [e]; intro e2; cases e2; omega
    · have hjk : j = k := by omega
      subst hjk
      have hvl : vs.length = j := by have := hvs.1; omega
      have hn : ∀ b, v1.ownBlock = some b → v5.ownBlock ≠ some b ∧ v6.ownBlock ≠ some b := fun b hb => by
        have := (h1.lt b hb).1
        constructor
        · intro e; have := q5 b e; omega
        · intro e; have := q6 b e; omega
      refine ⟨v1, by rw [← hvl]; simp, k3 (h1.base l0) hn, fun b hb => ?_⟩
      have hbl := h1.lt b hb
      obtain ⟨n5, n6⟩ := hn b hb
      constructor
      · rcases e5 with e | e
        · rw [e]; exact n5
        · rw [e]; intro e2; cases e2; omega
      · rcases e3 with e | e
        · rw [e]; exact n6
        · rw [e]; intro e2; cases e2; omega
  · intro b hb e
    rcases e5 with e5 | e5
    · rw [e5] at hb
      have := q5 b hb
      rcases e3 with e3 | e3
      · exact h.ne b hb (by rw [← e3]; exact e)
      · rw [e3] at e; cases e; omega
    · rw [e5] at hb
      cases hb
      have := (q6' _ e).2
      omega
end Go.Proofs.Ytekbjgnlaompbaa
