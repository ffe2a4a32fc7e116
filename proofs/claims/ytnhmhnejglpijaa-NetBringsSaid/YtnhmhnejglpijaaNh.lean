/- net: slices.Grow and slices.Concat over parcels: walks. -/
import Derived.Test.YtnhmhnejglpijaaNg
import Derived.Lib.Walk
import Derived.Lib.SliceRun
import Derived.Lib.AppendZerosOnto
namespace Go.Proofs.Ytnhmhnejglpijaa
open Go.RowKit
set_option maxRecDepth 100000
set_option linter.unusedSimpArgs false
set_option linter.unusedVariables false
set_option maxHeartbeats 4000000 in
theorem grow_some (n : Nat) (w : World) (hn : 0 < n) (hbig : n ≤ 1000000) :
    Calls Try.prog 143 #[.slice none 0 0, .int .i64 n] w fun e w' => ∃ v', e = .returned v' ∧ w'.ownsRow w.heap.size 36 3 v' 0 [] ∧ Below w.heap.size w w' := by
  obtain ⟨i0, hi0, hz0, hz1, hz2⟩ := info_parts Try.info36
  have h1 : ¬ ((n : Int) < 0) := by omega
  have h4 : (n : Int) > 0 := by omega
  have hold : (Builtin.firstCells i0.size 0 (.slice none 0 0)).run Try.prog w.drew = .ok #[] w.drew := run_firstCells_none w.drew i0.size 0 0 0
  have hrz : ∀ ty, (Builtin.append_ #[22, 3] ty #[.slice none 0 0, .int .i64 (n : Int)]).run Try.prog w =
      .ok (.slice (some ⟨w.heap.size, 0, none⟩) n (grownCap w n 0 36)) (w.drew.alloc (.cells (#[] ++ Builtin.zeroCells (Value.agg #[.int .i64 0, .slice none 0 0, .bool false]).cells n ++ Builtin.zeroCells (Value.agg #[.int .i64 0, .slice none 0 0, .bool false]).cells (grownCap w n 0 36 - n)) 36)) := fun ty => by
    have h := Lib.run_append_grow_zeros w 22 3 ty 36 i0 _ .i64 .i64 Try.underlying22 Try.underlying3 hi0 hz0 none 0 0 [] hold n (by omega) (by omega) (by omega) (by omega) (by rw [hz2]; omega) (by rw [Nat.zero_add]; exact growslice_fits (by omega) (by rw [hz2]; omega))
    rw [Nat.zero_add] at h
    exact h
  have hGn : n ≤ grownCap w n 0 36 := grownCap_ge w _ _ _
  obtain ⟨G, hG⟩ : ∃ G, G = grownCap w n 0 36 := ⟨_, rfl⟩
  rw [← hG] at hrz hGn
  have hGm : G ≤ maxLen := by rw [hG]; exact grownCap_le_maxLen w n 0 36 (by unfold maxLen; omega)
  have hG63 : G ≤ 9223372036854775807 := by unfold maxLen at hGm; omega
  obtain ⟨cs, hcs⟩ : ∃ cs, cs = (#[] ++ Builtin.zeroCells (Value.agg #[.int .i64 0, .slice none 0 0, .bool false]).cells n ++ Builtin.zeroCells (Value.agg #[.int .i64 0, .slice none 0 0, .bool false]).cells (G - n)) := ⟨_, rfl⟩
  have hcl : cs.size = G * 3 := by
    rw [hcs, Array.size_append, Array.size_append, size_zeroCells, size_zeroCells]
    show 0 + n * 3 + (G - n) * 3 = G * 3
    omega
  rw [← hcs] at hrz
  have HCL := Lib.hid hcl
  have HGM := Lib.hid hGm
  clear hold hG hcs hcl hGm hi0 hz0 hz1 hz2
  go_enter Try.func143, Try.ntmps143
  go_wp2_with (at_builtin; refine Lib.wpList_append_run _ rfl _ _ _ _ rfl _ _ rfl rfl _ _ (hrz _) ?_)
  all_goals
    go_ret
    exact ⟨_, rfl, World.ownsRow_made w.drew cs G (Nat.le_refl _) HGM.out HCL.out, below_al (below_dr (Below.refl _ w)) _⟩
theorem grow_none (w : World) :
    Calls Try.prog 143 #[.slice none 0 0, .int .i64 0] w fun e w' => ∃ v', e = .returned v' ∧ w'.ownsRow w.heap.size 36 3 v' 0 [] ∧ Below w.heap.size w w' := by
  go_enter Try.func143, Try.ntmps143
  go_wp2
  go_ret
  exact ⟨_, rfl, World.ownsRow_nil w _ 36 3, Below.refl _ _⟩
theorem grow_calls (n : Nat) (w : World) (hbig : n ≤ 1000000) :
    Calls Try.prog 143 #[.slice none 0 0, .int .i64 n] w fun e w' => ∃ v', e = .returned v' ∧ w'.ownsRow w.heap.size 36 3 v' 0 [] ∧ Below w.heap.size w w' := by
  cases n with
  | zero => exact grow_none w
  | succ n => exact grow_some (n + 1) w (by omega) hbig
/-- cells of parcels that can be read -/
def RowS (w : World) (v : Value) (n : Nat) (xs : List Value) : Prop :=
  ∃ b off cap, v = .slice (some ⟨b, off, none⟩) n cap ∧ xs.length = n * 3 ∧ (∀ u, u ∈ xs → u.oneCell' = true) ∧ b < w.heap.size ∧ ∀ j u, xs[j]? = some u → w.cell? ⟨b, off + j, none⟩ = some u
theorem RowS.below {w w' : World} {v : Value} {n : Nat} {xs : List Value} (h : RowS w v n xs) (hb : Below w.heap.size w w') : RowS w' v n xs := by
  obtain ⟨b, off, cap, e, h1, h2, h3, h4⟩ := h
  exact ⟨b, off, cap, e, h1, h2, Nat.lt_of_lt_of_le h3 hb.size, fun j u hu => (hb.cell (p := ⟨b, off + j, none⟩) h3).trans (h4 j u hu)⟩
theorem wpList_appC {w : World} {ops : Array Oper} {rest : List Oper} {o : Oper} {a : Act} {Q : Exit → Act → World → Prop} (hgd : o.guard = none) (s x : Operand)
    (ho : o.op = .call { callee := .builtin .append, args := #[s, x], argTypes := #[22, 22] }) (B : Nat) (v xv : Value) (n m : Nat) (xs ys : List Value) (hs : a.eval s = v) (hown : w.ownsRow B 36 3 v n xs) (hx : a.eval x = xv) (hxb : RowS w xv m ys)
    (hlen : n + m ≤ 1000000) (hbase : B ≤ w.heap.size)
    (h : ∀ v' w', w'.ownsRow B 36 3 v' (n + m) (xs ++ ys) → w.grownBy w' v.ownBlock → wpList Try.prog ops Q rest (a.put o.dst v') w') : wpList Try.prog ops Q (o :: rest) a w := by
  obtain ⟨i0, hi, hz0, hz1, hz2⟩ := info_parts Try.info36
  obtain ⟨b, off, cap, rfl, h1, h2, h3, h4⟩ := hxb
  refine wpList_append_own_at w hgd s x 22 ho B 36 i0 _ 3 40 Try.underlying22 hi hz0 hz1 hz2 rfl (by decide) v n xs hs hown ⟨b, off, none⟩ m cap ys hx h1 ?_ h2 (by unfold maxLen; omega) (by omega) hbase ?_
  · intro j u hu
    rw [add_off]
    exact h4 j u hu
  · intro v' w' k1 k2 _ k4
    exact h v' w' k1 k2
theorem RowS.len {w : World} {v : Value} {n : Nat} {xs : List Value} (h : RowS w v n xs) : ∃ b off cap, v = .slice (some ⟨b, off, none⟩) n cap := by
  obtain ⟨b, off, cap, e, _⟩ := h
  exact ⟨b, off, cap, e⟩
set_option maxHeartbeats 4000000 in
theorem concat_calls (a : Nat) (v1 v2 : Value) (n1 n2 : Nat) (xs1 xs2 : List Value) (T : TypeId) (f : Nat × Nat) (w : World) (ha : w.heap[a]? = some (.cells #[v1, v2] T f)) (h1 : RowS w v1 n1 xs1) (h2 : RowS w v2 n2 xs2) (hn : n1 + n2 ≤ 1000000) :
    Calls Try.prog 136 #[.slice (some ⟨a, 0, none⟩) 2 2] w fun e w' => ∃ v', e = .returned v' ∧ w'.ownsRow w.heap.size 36 3 v' (n1 + n2) (xs1 ++ xs2) ∧ Below w.heap.size w w' := by
  obtain ⟨b1, o1, c1, rfl⟩ := h1.len
  obtain ⟨b2, o2, c2, rfl⟩ := h2.len
  obtain ⟨N, hN⟩ : ∃ N, N = n1 + n2 := ⟨_, rfl⟩
  have e1 : (n1 : Int) + (n2 : Int) = (N : Int) := by omega
  have HN := Lib.hid hN
  have HA := Lib.hid ha
  have H1 := Lib.hid h1
  have H2 := Lib.hid h2
  have p0 : w.cell? ⟨a, 0, none⟩ = some (.slice (some ⟨b1, o1, none⟩) n1 c1) := cell_of_heap ha
  have p1 : w.cell? ⟨a, 1, none⟩ = some (.slice (some ⟨b2, o2, none⟩) n2 c2) := cell_of_heap ha
  clear ha h1 h2 hN
  go_enter Try.func136, Try.ntmps136
  go_wp2_with fail
  go_loopw [11, 3, 5] (fun i s _ wr => wr = w ∧ ((i = .int .i64 0 ∧ s = .int .i64 0) ∨ (i = .int .i64 1 ∧ s = .int .i64 (n1 : Int)) ∨ (i = .int .i64 2 ∧ s = .int .i64 (N : Int)))) (fun i _ _ _ => 2 - (intOf i).toNat)
  case atStart => exact ⟨rfl, .inl ⟨rfl, rfl⟩⟩
  case round =>
    obtain ⟨hw, hrel⟩ := hrel
    obtain rfl : w = wr := hw.symm
    rcases hrel with ⟨rfl, rfl⟩ | ⟨rfl, rfl⟩ | ⟨rfl, rfl⟩
    · go_wp2
      go_roundw
      case rel => exact ⟨trivial, .inr (.inl ⟨rfl, rfl⟩)⟩
      case measure => simp [intOf]
    · go_wp2
      go_roundw
      case rel => exact ⟨trivial, .inr (.inr ⟨rfl, rfl⟩)⟩
      case measure => simp [intOf]
    · have hnn : Hid (N ≤ 1000000) := Lib.hid (by rw [HN.out]; exact hn)
      go_wp2_with (go_at_call 143; (with_reducible refine (grow_calls N _ hnn.out).mono ?_); rintro e w3 ⟨v3, rfl, hr3, hb3⟩)
      have HR3 := Lib.hid hr3
      have HB3 := Lib.hid hb3
      clear hr3 hb3
      go_loopw [27, 6, 8] (fun i s _ wq => (i = .int .i64 0 ∧ s = v3 ∧ wq = w3) ∨ (i = .int .i64 1 ∧ Hid (wq.ownsRow w.heap.size 36 3 s n1 xs1 ∧ Below w.heap.size w wq)) ∨ (i = .int .i64 2 ∧ Hid (wq.ownsRow w.heap.size 36 3 s (n1 + n2) (xs1 ++ xs2) ∧ Below w.heap.size w wq))) (fun i _ _ _ => 2 - (intOf i).toNat)
      case atStart => exact .inl ⟨rfl, rfl, rfl⟩
      case round =>
        rcases hrel with ⟨rfl, rfl, hw3⟩ | ⟨rfl, hQ⟩ | ⟨rfl, hQ⟩
        · obtain rfl : w3 = wr := hw3.symm
          have d0 := (HB3.out.cell (p := ⟨a, 0, none⟩) (World.block_lt_of_cell? _ _ p0)).trans p0
          go_wp2_with (at_builtin; refine wpList_appC rfl (.tmp 31) (.tmp 32) rfl w.heap.size _ _ 0 n1 [] xs1 rfl HR3.out rfl (H1.out.below HB3.out) (by omega) HB3.out.size ?_; intro v4 w4 h4 g4)
          have hb4 : Below w.heap.size w w4 := HB3.out.grown g4 HB3.out.size (fun k e => (World.ownsRow.lt HR3.out k e).1)
          rw [Nat.zero_add, List.nil_append] at h4
          have HQ : Hid (w4.ownsRow w.heap.size 36 3 v4 n1 xs1 ∧ Below w.heap.size w w4) := Lib.hid ⟨h4, hb4⟩
          clear h4 hb4 g4
          go_roundw
          case rel => exact .inr (.inl ⟨rfl, HQ⟩)
          case measure => simp [intOf]
        · have d1 := (hQ.out.2.cell (p := ⟨a, 1, none⟩) (World.block_lt_of_cell? _ _ p1)).trans p1
          go_wp2_with (at_builtin; refine wpList_appC rfl (.tmp 31) (.tmp 32) rfl w.heap.size _ _ n1 n2 xs1 xs2 rfl hQ.out.1 rfl (H2.out.below hQ.out.2) (by omega) hQ.out.2.size ?_; intro v4 w4 h4 g4)
          have hb4 : Below w.heap.size w w4 := hQ.out.2.grown g4 hQ.out.2.size (fun k e => (World.ownsRow.lt hQ.out.1 k e).1)
          have HQ : Hid (w4.ownsRow w.heap.size 36 3 v4 (n1 + n2) (xs1 ++ xs2) ∧ Below w.heap.size w w4) := Lib.hid ⟨h4, hb4⟩
          clear h4 hb4 g4
          go_roundw
          case rel => exact .inr (.inr ⟨rfl, HQ⟩)
          case measure => simp [intOf]
        · go_wp2
          go_ret
          exact ⟨_, rfl, hQ.out.1, hQ.out.2⟩
end Go.Proofs.Ytnhmhnejglpijaa
