/- A region inside a round of a loop over an iterator: the plain laws serve there too. -/
import Derived.Test.YtnhmhnejglpijaaQo
import Derived.RegionIn
namespace Go.Proofs.Ytnhmhnejglpijaa
open Go.RowKit Go.Shelf
set_option linter.unusedSimpArgs false
set_option linter.unusedVariables false
/-- no operation puts a call off -/
def noDefer (ops : Array Oper) : Bool := ops.all fun o => match o.op with | .defer _ => false | _ => true
theorem noDefer_at {ops : Array Oper} (h : noDefer ops = true) {i : Nat} {o : Oper} (ho : ops[i]? = some o) : ∀ c, o.op ≠ .defer c := by
  intro c e
  have := Array.all_eq_true'.1 h o (Array.mem_of_getElem? ho)
  rw [e] at this
  cases this
theorem calls_round {l n : Nat} {P : Program} {f : FuncId} {args : Array Value} {w : World} {R : Ending → World → Prop} (h : Calls P f args w R) : CallsIn (Fence.wide.inRound l) n P f args w R :=
  show CallsIn Fence.wide n P f args w R from callsIn_wide.2 h
theorem rows_round {l n : Nat} {P : Program} {row : String} {args : Array Value} {w : World} {R : Value → World → Prop} (h : Rows P row args w R) : RowsIn (Fence.wide.inRound l) n P row args w R :=
  fun c cs _ => let ⟨v, w', r, s⟩ := h c cs; ⟨v, w', r, stepsIn_wide.2 s⟩
theorem oper_round {l n : Nat} {P : Program} {o : Oper} {a : Act} {w : World} {K : Act → World → Prop} {Q : Exit → Act → World → Prop} (hd : ∀ c, o.op ≠ .defer c) (h : o.wp P a w K Q) : o.wpIn (Fence.wide.inRound l) n P a w K Q := by
  refine ⟨fun _ _ => trivial, ?_⟩
  rw [Oper.semAt_eq _ _ _ hd]
  unfold Oper.wp at h
  generalize (execOp a.eval o).run P w = r at *
  cases r with
  | ok x w' =>
    cases x <;> simp only [Oper.upon, Oper.uponIn] at h ⊢
    all_goals first
      | exact h
      | exact ⟨fun h => (by cases h), calls_round h⟩
      | exact ⟨fun h => (by cases h), rows_round h⟩
  | halt x w' => cases x <;> simp only [Oper.upon, Oper.uponIn] at h ⊢ <;> exact h
theorem any_round {l n : Nat} {P : Program} {md : Region.Mode} {ops : Array Oper} {Q : Exit → Act → World → Prop} (hd : noDefer ops = true) (hq : ¬ LetsOut Q) : ∀ (fuel : Nat) (listed : Array Bool) (a : Act) (w : World), wpAny P md ops Q fuel listed a w → wpAnyIn (Fence.wide.inRound l) n P md ops Q fuel listed a w
  | 0, _, _, _, h => h
  | fuel + 1, listed, a, w, h => by
    refine ⟨h.1, fun i hi => ?_⟩
    have hk := h.2 i hi
    unfold wpOp at hk
    unfold wpOpIn
    cases ho : ops[i]? with
    | none =>
      rw [ho] at hk
      exact any_round hd hq fuel _ _ _ hk
    | some o =>
      rw [ho] at hk
      simp only at hk ⊢
      split
      · rename_i hw
        rw [if_pos hw] at hk
        rcases hk with hk | hk
        · exact oper_round (noDefer_at hd ho) (Oper.wp_mono (fun a w h => any_round hd hq fuel _ _ _ h) hk)
        · exact absurd hk.2 hq
      · rename_i hw
        rw [if_neg hw] at hk
        exact ⟨fun _ _ => trivial, any_round hd hq fuel _ _ _ hk⟩
theorem region_round {l n id : Nat} {ops : List Oper} {Q : Exit → Act → World → Prop} {a : Act} {w : World} (k : Nat) (hk : ops.length = k) (hd : noDefer ops.toArray = true) (hq : ¬ LetsOut Q)
    (h : wpAny Try.prog .any ops.toArray Q k (Array.replicate k false) a w.drew) : (Code.region id ops.toArray true).wpIn (Fence.wide.inRound l) n Try.prog Q a w := by
  subst hk
  exact wpIn_region_any (by kernel_rfl) (any_round hd hq _ _ _ _ h)
theorem list_round {l n : Nat} {P : Program} {ops : Array Oper} {Q : Exit → Act → World → Prop} (hq : ¬ LetsOut Q) : ∀ (os : List Oper) (a : Act) (w : World), (∀ o, o ∈ os → ∀ c, o.op ≠ .defer c) → wpList P ops Q os a w → wpListIn (Fence.wide.inRound l) n P ops Q os a w
  | [], _, _, _, h => h
  | o :: os, a, w, hd, h => by
    unfold wpList at h
    unfold wpListIn
    split
    · rename_i hw
      rw [if_pos hw] at h
      rcases h with h | h
      · exact oper_round (hd o (by simp)) (Oper.wp_mono (fun a w h => list_round hq os a w (fun o ho => hd o (by simp [ho])) h) h)
      · exact absurd h.2 hq
    · rename_i hw
      rw [if_neg hw] at h
      exact ⟨fun _ _ => trivial, list_round hq os _ w (fun o ho => hd o (by simp [ho])) h⟩
end Go.Proofs.Ytnhmhnejglpijaa
