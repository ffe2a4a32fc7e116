/- The reference's Scan; rows of places: walks. -/
import Derived.Test.YtnhmhnejglpijaaQm
namespace Go.Proofs.Ytnhmhnejglpijaa
open Go.RowKit
set_option maxRecDepth 100000
set_option linter.unusedSimpArgs false
set_option linter.unusedVariables false
theorem Try.info3 : (Try.prog.info? 3).map (fun i => (i.zero, i.size, i.bytes)) = some (some (.int .i64 0), 1, 8) := by kernel_rfl
def ivals (is : List Nat) : List Value := is.map fun (i : Nat) => Value.int .i64 (i : Int)
/-- The slice v holds numbers, in a block of the call's own, or is nil. -/
def OwnIs (w : World) (B : Nat) (v : Value) (is : List Nat) : Prop := w.ownsRow B 3 1 v is.length (ivals is)
theorem OwnIs.nil (w : World) (B : Nat) : OwnIs w B (.slice none 0 0) [] := World.ownsRow_nil w B 3 1
theorem OwnIs.lt {w : World} {B : Nat} {v : Value} {is : List Nat} (h : OwnIs w B v is) : ∀ k, v.ownBlock = some k → B ≤ k ∧ k < w.heap.size := World.ownsRow.lt h
theorem OwnIs.type {w : World} {B : Nat} {v : Value} {is : List Nat} (h : OwnIs w B v is) : ∀ b, v.ownBlock = some b → ∃ c, w.heap[b]? = some (.cells c 3 (0, 0)) := row_type h
theorem OwnIs.noBytes {w : World} {B : Nat} {v : Value} {is : List Nat} (h : OwnIs w B v is) : NoBytes w v.ownBlock := by
  intro b hb
  obtain ⟨cur, hc⟩ := h.type b hb
  exact ⟨cur, 3, (0, 0), by decide, hc⟩
theorem OwnIs.below {w w' : World} {B : Nat} {v : Value} {is : List Nat} (h : OwnIs w B v is) (hb : Below w.heap.size w w') : OwnIs w' B v is := World.ownsRow.kept h (grown_of_below hb) own_ne_none
theorem OwnIs.kept {w w' : World} {B : Nat} {v : Value} {is : List Nat} {row : Option Nat} (h : OwnIs w B v is) (hg : w.grownBy w' row) (hne : v.ownBlock = none ∨ v.ownBlock ≠ row) : OwnIs w' B v is := World.ownsRow.kept h hg hne
/-- blocks of two kinds differ -/
theorem ne_kinds {w : World} {t T : TypeId} {u v : Value} (hu : ∀ b, u.ownBlock = some b → ∃ c, w.heap[b]? = some (.cells c t (0, 0))) (hv : ∀ b, v.ownBlock = some b → ∃ c, w.heap[b]? = some (.cells c T (0, 0))) (hT : t ≠ T) : u.ownBlock = none ∨ u.ownBlock ≠ v.ownBlock := by
  cases h : u.ownBlock with
  | none => exact .inl rfl
  | some b =>
    refine .inr fun e => ?_
    obtain ⟨c, hc⟩ := hu b h
    obtain ⟨c', hc'⟩ := hv b e.symm
    rw [hc] at hc'
    cases hc'
    exact hT rfl
theorem OwnRs.type' {P : World → Value → List B8 → Prop} {w : World} {B : Nat} {v : Value} {rows : List (List B8)} (h : OwnRs P w B v rows) : ∀ b, v.ownBlock = some b → ∃ c, w.heap[b]? = some (.cells c 34 (0, 0)) := fun b hb => (h.type b hb).2
theorem wpList_appI {w : World} {ops : Array Oper} {rest : List Oper} {o : Oper} {a : Act} {Q : Exit → Act → World → Prop} (hgd : o.guard = none) (s x : Operand)
    (ho : o.op = .call { callee := .builtin .append, args := #[s, x], argTypes := #[71, 71] }) (B : Nat) (v : Value) (is : List Nat) (hs : a.eval s = v) (hown : OwnIs w B v is)
    (ad i : Nat) (T : TypeId) (fr : Nat × Nat) (hx : a.eval x = .slice (some ⟨ad, 0, none⟩) 1 1) (hc : w.heap[ad]? = some (.cells #[.int .i64 (i : Int)] T fr))
    (hlen : is.length ≤ 1000000) (hbase : B ≤ w.heap.size)
    (h : ∀ g cap w', OwnIs w' B (.slice (some ⟨g, 0, none⟩) (is.length + 1) cap) (is ++ [i]) → w.grownBy w' v.ownBlock → g < w'.heap.size → wpList Try.prog ops Q rest (a.put o.dst (.slice (some ⟨g, 0, none⟩) (is.length + 1) cap)) w') :
    wpList Try.prog ops Q (o :: rest) a w := by
  obtain ⟨i0, hi, hz0, hz1, hz2⟩ := info_parts Try.info3
  refine wpList_append_lies (P := Try.prog) w hgd s x 71 ho B 3 i0 _ 1 8 Try.underlying71 hi hz0 hz1 hz2 rfl (by decide) v is.length (ivals is) hs hown ⟨ad, 0, none⟩ 1 1 [.int .i64 (i : Int)] hx rfl ?_ ?_ (by decide) (by unfold maxLen; omega) (by omega) hbase w.heap.size rfl ?_
  · intro j u hu
    exact World.news_of_block hc j u hu
  · intro u hu
    simp only [List.mem_cons, List.not_mem_nil, or_false] at hu
    subst hu
    rfl
  · intro g cap w' h1 h2 h3 h4
    refine h g cap w' ?_ h2 h4
    unfold OwnIs
    rw [List.length_append, show ivals (is ++ [i]) = ivals is ++ [.int .i64 (i : Int)] by simp [ivals]]
    exact h1
/-- what the records hold, and where they begin -/
def heldL (l : List (Nat × List B8)) : List (List B8) := l.map fun p => p.2
def atL (l : List (Nat × List B8)) : List Nat := l.map fun p => p.1
theorem heldL_snoc (l : List (Nat × List B8)) (k : Nat) (h : List B8) : heldL (l ++ [(k, h)]) = heldL l ++ [h] := by simp [heldL]
theorem atL_snoc (l : List (Nat × List B8)) (k : Nat) (h : List B8) : atL (l ++ [(k, h)]) = atL l ++ [k] := by simp [atL]
theorem heldL_length (l : List (Nat × List B8)) : (heldL l).length = l.length := by simp [heldL]
theorem atL_length (l : List (Nat × List B8)) : (atL l).length = l.length := by simp [atL]
structure ScanQ (w : World) (bs : List B8) (pre : List (Nat × List B8)) (k : Nat) (v1 v2 : Value) (wr : World) : Prop where
  below : Below w.heap.size w wr
  rows : OwnRs Bt wr w.heap.size v1 (heldL pre)
  places : OwnIs wr w.heap.size v2 (atL pre)
  inv : ScanR bs pre k
set_option maxHeartbeats 4000000 in
theorem rscan_calls (v : Value) (bs : List B8) (w : World) (hb : Bys w v bs) (hl : bs.length ≤ 1000000) :
    Calls Try.prog 42 #[v] w fun e w' => ∃ v1 v2, e = .returned (.tuple #[v1, v2, .int .i64 (endL (recAt bs 0) : Int)]) ∧ OwnRs Bt w' w.heap.size v1 (heldL (recAt bs 0)) ∧ OwnIs w' w.heap.size v2 (atL (recAt bs 0)) ∧ Below w.heap.size w w' := by
  obtain ⟨A, cap, rfl, hc1, hc2, _⟩ := id hb
  unfold maxLen at hc2
  have HB := Lib.hid hb
  have HL := Lib.hid hl
  clear hb
  go_enter Try.func42, Try.ntmps42
  go_wp2
  go_loopw [5, 6, 7] (fun s5 s6 s7 wr => ∃ (pre : List (Nat × List B8)) (k : Nat), s7 = .int .i64 k ∧ Hid (ScanQ w bs pre k s5 s6 wr)) (fun _ _ i _ => bs.length - (intOf i).toNat)
  case atStart => exact ⟨[], 0, rfl, Lib.hid ⟨Below.refl _ _, OwnRs.nil _ _ _, OwnIs.nil _ _, ScanR.start bs⟩⟩
  case round =>
    obtain ⟨pre, k, rfl, HR⟩ := hrel
    have hk := HR.out.inv.le
    obtain ⟨A2, c2, hrun, hcc, hnc, hby⟩ := slice_from A bs.length cap k hk hc1
    have HY := Lib.hid ((hby wr bs rfl).1 (HB.out.below HR.out.below))
    have k0 : (0 : Int) ≤ (k : Int) := by omega
    have k1 : (k : Int) ≤ (bs.length : Int) := by omega
    have HDL : Hid ((bs.drop k).length ≤ 1099511627776) := Lib.hid (by rw [List.length_drop]; omega)
    clear hby
    have hcall := fun W hW => rfirst_calls (.slice A2 (bs.length - k) c2) (bs.drop k) W hW HDL.out
    cases hf : firstW (bs.drop k) with
    | ok h =>
      rw [hf] at hcall
      have hN := HR.out.inv.next hf
      have hlen := firstW_len hf
      rw [List.length_drop] at hlen
      have HN := Lib.hid hN
      have HC : Hid (∀ W, Bys W (.slice A2 (bs.length - k) c2) (bs.drop k) → Calls Try.prog 51 #[.slice A2 (bs.length - k) c2] W fun e w' => Below W.heap.size W w' ∧ ∃ A c, e = .returned (.tuple #[.slice A h.length c, .int .i64 0]) ∧ Bt w' (.slice A h.length c) h) := Lib.hid hcall
      have HFW : Hid (pre.length ≤ 1000000) := Lib.hid (by have := HR.out.inv.few; have := HL.out; omega)
      have b1 : (k : Int) ≤ 1000000 := by omega
      have b2 : (h.length : Int) ≤ 1000000 := by omega
      have HLEN := Lib.hid hlen
      clear hlen
      clear hN hcall hf
      go_wp2_with (first
        | (go_at_call 51; (with_reducible refine (HC.out _ HY.out).mono ?_); rintro e w1 ⟨hb1, A1, c1, rfl, ho1⟩; (have HB1 := Lib.hid (below_al (below_tr HR.out.below hb1) (.cells #[.slice A1 h.length c1] 34))); (have HR1 := Lib.hid ((HR.out.rows.below el_bt hb1).below el_bt (below_al (Below.refl _ _) (.cells #[.slice A1 h.length c1] 34)))); (have HP1 := Lib.hid ((HR.out.places.below hb1).below (below_al (Below.refl _ _) (.cells #[.slice A1 h.length c1] 34)))); (have HO1 := Lib.hid (ho1.below (below_al (Below.refl _ _) (.cells #[.slice A1 h.length c1] 34)))); (clear hb1 ho1))
        | (at_builtin; refine wpList_appR el_bt rfl (.tmp 22) (.tmp 24) rfl w.heap.size _ (heldL pre) rfl HR1.out w1.heap.size h (.slice A1 h.length c1) 34 (0, 0) rfl (new_here w1 _) HO1.out (by rw [heldL_length]; exact HFW.out) HB1.out.size ?_; intro g1 cap1 w2 h2 hg2 hlt2; (have HB2 := Lib.hid (below_al (HB1.out.grown hg2 HB1.out.size (fun k e => (HR1.out.lt k e).1)) (.cells #[.int .i64 (k : Int)] 3))); (have HP2 := Lib.hid ((HP1.out.kept hg2 (ne_kinds HP1.out.type HR1.out.type' (by decide))).below (below_al (Below.refl _ _) (.cells #[.int .i64 (k : Int)] 3)))); (have HR2 := Lib.hid (h2.below el_bt (below_al (Below.refl _ _) (.cells #[.int .i64 (k : Int)] 3)))); (clear h2 hg2 hlt2))
        | (at_builtin; refine wpList_appI rfl (.tmp 26) (.tmp 28) rfl w.heap.size _ (atL pre) rfl HP2.out w2.heap.size k 3 (0, 0) rfl (new_here w2 _) (by rw [atL_length]; exact HFW.out) HB2.out.size ?_; intro g2 cap2 w3 h3 hg3 hlt3; (have HB3 := Lib.hid (HB2.out.grown hg3 HB2.out.size (fun k e => (HP2.out.lt k e).1))); (have HR3 := Lib.hid (HR2.out.kept el_bt hg3 HP2.out.noBytes (ne_kinds HR2.out.type' HP2.out.type (by decide)))); (have HP3 := Lib.hid h3); (clear h3 hg3 hlt3)))
      have HQ : Hid (ScanQ w bs (pre ++ [(k, h)]) (k + (h.length + 8)) (.slice (some ⟨g1, 0, none⟩) ((heldL pre).length + 1) cap1) (.slice (some ⟨g2, 0, none⟩) ((atL pre).length + 1) cap2) w3) := Lib.hid ⟨HB3.out, by rw [heldL_snoc]; exact HR3.out, by rw [atL_snoc]; exact HP3.out, HN.out⟩
      go_roundw
      case rel => exact ⟨pre ++ [(k, h)], k + (h.length + 8), by go_num, HQ⟩
      case measure => simp [intOf]; have := HLEN.out; omega
    | error n =>
      rw [hf] at hcall
      obtain ⟨hD1, hD2⟩ := HR.out.inv.done hf
      have hn0 := firstW_err hf
      have hne : (n != 0) = true := by simpa using hn0
      have HC : Hid (∀ W, Bys W (.slice A2 (bs.length - k) c2) (bs.drop k) → Calls Try.prog 51 #[.slice A2 (bs.length - k) c2] W fun e w' => Below W.heap.size W w' ∧ ∃ A c, e = .returned (.tuple #[.slice A 0 c, .int .i64 n]) ∧ Bt w' (.slice A 0 c) []) := Lib.hid hcall
      have HD := Lib.hid (And.intro hD1 hD2)
      clear hcall hf hD1 hD2 hn0
      go_wp2_with (go_at_call 51; (with_reducible refine (HC.out _ HY.out).mono ?_); rintro e w1 ⟨hb1, A1, c1, rfl, ho1⟩)
      go_ret3
      exact ⟨_, _, by rw [← HD.out.2]; rfl, by rw [← HD.out.1]; exact HR.out.rows.below el_bt hb1, by rw [← HD.out.1]; exact HR.out.places.below hb1, below_tr HR.out.below hb1⟩
end Go.Proofs.Ytnhmhnejglpijaa
