/- net: something befalls a parcel: walks. -/
import Derived.Test.YtnhmhnejglpijaaNl
import Derived.StillTailTactics
namespace Go.Proofs.Ytnhmhnejglpijaa
open Go.RowKit
set_option maxRecDepth 100000
set_option linter.unusedSimpArgs false
set_option linter.unusedVariables false
/-- what a trick comes to: the error, and the net behind it -/
def doesP (ps : List Pc) (lost : Int) (told : List Pc) (kind at_ bit : Int) (m : W32) : Int × (List Pc × Int × List Pc) :=
  if 1 ≤ kind ∧ kind ≤ 4 then
    if 0 ≤ at_ ∧ at_ < (ps.length : Int) then
      if kind = 1 then (0, ps.eraseIdx at_.toNat, lost, told ++ [pcAt ps at_.toNat])
      else if kind = 2 then (0, ps.eraseIdx at_.toNat, lost, told)
      else if kind = 3 then (0, sentPs ps (pcAt ps at_.toNat), sentLost ps lost, told)
      else if (pcAt ps at_.toNat).sp = true then (5, ps, lost, told)
      else match spoilI (pcAt ps at_.toNat).bytes bit m with
        | none => (2, ps, lost, told)
        | some l => (0, ps.set at_.toNat ⟨(pcAt ps at_.toNat).site, l, true⟩, lost, told)
    else (4, ps, lost, told)
  else (2, ps, lost, told)
def DoesOut (B H : Nat) (r : Int × (List Pc × Int × List Pc)) (W : World) (e : Ending) (w' : World) : Prop :=
  ((e = .returned (.tuple #[]) ∧ r.1 = 0) ∨ e = errP r.1) ∧ HandR B H r.2.1 r.2.2.1 r.2.2.2 w' ∧ Fr B W w'
theorem need_okq (n : Int) (w : World) : Calls Try.prog 62 #[.bool true, .int .i64 n] w fun e w' => e = .returned (.tuple #[]) ∧ w' = w := (need_ok n w).mono fun _ _ ⟨h1, h2⟩ => ⟨h1, h2.symm⟩
/-- the world behind the ways are laid -/
abbrev waysW (W : World) : World := W.alloc (.cells #[.nilFunc, .func (.func 105) #[] #[], .func (.func 106) #[] #[], .func (.func 107) #[] #[], .func (.func 108) #[] #[]] 140)
set_option maxHeartbeats 4000000 in
theorem dclo_kind (B H Tb Hb : Nat) (ps told : List Pc) (lost : Int) (kind at_ bit : Int) (m : W32) (W : World) (hT : W.heap[Tb]? = some (.cells #[.int .i64 kind, .int .i64 at_, .int .i64 bit, .int .u32 (nb m)] 48 (0, 0)))
    (hR : HandR B H ps lost told W) (hB : B ≤ W.heap.size) (hk : ¬ (1 ≤ kind ∧ kind ≤ 4)) :
    Calls Try.prog 104 #[.pointer (some ⟨Tb, 0, none⟩), .pointer (some ⟨Hb, 0, none⟩)] W (DoesOut B H (2, ps, lost, told) W) := by
  have t0 : W.cell? ⟨Tb, 0, none⟩ = some (.int .i64 kind) := cell_of_heap hT
  have hTl := lt_of_heap hT
  have HEND : Hid (HandR B H ps lost told (waysW W) ∧ Fr B W (waysW W)) := Lib.hid ⟨hR.below (below_al (Below.refl _ _) _), Fr.of_below hB (below_al (Below.refl _ _) _)⟩
  clear hT hR hB
  by_cases h1 : kind ≥ 1
  · have d1 : decide (kind ≥ 1) = true := decide_eq_true h1
    have d2 : decide (kind < 5) = false := decide_eq_false (by omega)
    go_enter Try.func104, Try.ntmps104
    go_wp2_with (go_at_call 62; (with_reducible refine (need_no _ _).mono ?_); rintro e w2 ⟨rfl, rfl⟩)
    exact ⟨rfl, .inr rfl, HEND.out.1, HEND.out.2⟩
  · have d1 : decide (kind ≥ 1) = false := decide_eq_false h1
    go_enter Try.func104, Try.ntmps104
    go_wp2_with (go_at_call 62; (with_reducible refine (need_no _ _).mono ?_); rintro e w2 ⟨rfl, rfl⟩)
    exact ⟨rfl, .inr rfl, HEND.out.1, HEND.out.2⟩
/-- what the walk over the ways wants to know -/
structure DF (B H Tb Hb : Nat) (ps told : List Pc) (lost : Int) (kind at_ bit : Int) (m : W32) (W X : World) : Prop where
  t0 : X.cell? ⟨Tb, 0, none⟩ = some (.int .i64 kind)
  t1 : X.cell? ⟨Tb, 1, none⟩ = some (.int .i64 at_)
  t2 : X.cell? ⟨Tb, 2, none⟩ = some (.int .i64 bit)
  t3 : X.cell? ⟨Tb, 3, none⟩ = some (.int .u32 (nb m))
  h0 : X.cell? ⟨Hb, 0, none⟩ = some (.pointer (some ⟨H, 0, none⟩))
  c0 : ∃ A c, X.cell? ⟨H, 0, none⟩ = some (.slice A ps.length c)
  hand : HandR B H ps lost told X
  fr : Fr B W X
theorem df_of {B H Tb Hb : Nat} {ps told : List Pc} {lost : Int} {kind at_ bit : Int} {m : W32} {W X : World} (hT : W.heap[Tb]? = some (.cells #[.int .i64 kind, .int .i64 at_, .int .i64 bit, .int .u32 (nb m)] 48 (0, 0))) (hH : W.heap[Hb]? = some (.cells #[.pointer (some ⟨H, 0, none⟩)] 98 (0, 0)))
    (hR : HandR B H ps lost told W) (hB : B ≤ W.heap.size) (hb : Below W.heap.size W X) : DF B H Tb Hb ps told lost kind at_ bit m W X := by
  have h1 := (hb.block Tb (lt_of_heap hT)).trans hT
  have h2 := (hb.block Hb (lt_of_heap hH)).trans hH
  have h3 := hR.below hb
  obtain ⟨hBH, vp, vt, hh, hp, ht, hne⟩ := hR
  obtain ⟨A, c, rfl, _⟩ := hp.shape
  exact ⟨cell_of_heap h1, cell_of_heap h1, cell_of_heap h1, cell_of_heap h1, cell_of_heap h2, ⟨A, c, cell_of_heap ((hb.block H (lt_of_heap hh)).trans hh)⟩, h3, Fr.of_below hB hb⟩
set_option maxHeartbeats 4000000 in
theorem dclo_at (B H Tb Hb : Nat) (ps told : List Pc) (lost : Int) (kind at_ bit : Int) (m : W32) (W : World) (hT : W.heap[Tb]? = some (.cells #[.int .i64 kind, .int .i64 at_, .int .i64 bit, .int .u32 (nb m)] 48 (0, 0))) (hH : W.heap[Hb]? = some (.cells #[.pointer (some ⟨H, 0, none⟩)] 98 (0, 0)))
    (hR : HandR B H ps lost told W) (hB : B ≤ W.heap.size) (hk : 1 ≤ kind ∧ kind ≤ 4) (ha : ¬ (0 ≤ at_ ∧ at_ < (ps.length : Int))) :
    Calls Try.prog 104 #[.pointer (some ⟨Tb, 0, none⟩), .pointer (some ⟨Hb, 0, none⟩)] W (DoesOut B H (4, ps, lost, told) W) := by
  have HD := Lib.hid (fun X hX => df_of (X := X) hT hH hR hB hX)
  obtain ⟨q0, q1, q2, q3, qh, ⟨A, c, qc⟩, _, _⟩ := HD.out _ (below_al (Below.refl _ _) (.cells #[.nilFunc, .func (.func 105) #[] #[], .func (.func 106) #[] #[], .func (.func 107) #[] #[], .func (.func 108) #[] #[]] 140))
  have d1 : decide (kind ≥ 1) = true := decide_eq_true hk.1
  have d2 : decide (kind < 5) = true := decide_eq_true (by omega)
  clear hT hH hR hB hk
  obtain ⟨W1, hW1⟩ : ∃ W1, W.alloc (.cells #[.nilFunc, .func (.func 105) #[] #[], .func (.func 106) #[] #[], .func (.func 107) #[] #[], .func (.func 108) #[] #[]] 140) = W1 := ⟨_, rfl⟩
  have HW1 := Lib.hid hW1
  rw [hW1] at qc
  have HFIN : Hid (HandR B H ps lost told W1.drew ∧ Fr B W W1.drew) := Lib.hid (by
    have := HD.out W1.drew (below_dr (by rw [← hW1]; exact below_al (Below.refl _ _) _))
    exact ⟨this.hand, this.fr⟩)
  clear hW1
  by_cases h1 : at_ ≥ 0
  · have d3 : decide (at_ ≥ 0) = true := decide_eq_true h1
    have d4 : decide (at_ < (ps.length : Int)) = false := decide_eq_false (by omega)
    clear ha
    go_enter Try.func104, Try.ntmps104
    go_wp2_with (go_at_call 62; (with_reducible refine (need_ok _ _).mono ?_); rintro e w2 ⟨rfl, rfl⟩)
    rw [HW1.out]
    rw [HW1.out] at q0 q1 q2 q3 qh
    refine wp_region_still_tail 14 (by kernel_rfl) (by kernel_rfl) ?_
    simp only [List.take_succ_cons, List.take_zero, List.drop_succ_cons, List.drop_zero]
    iterate 14 ((with_reducible refine wpStill_step (fun K hK => ?_)); go_simp; (with_reducible refine hK _ ?_); clear hK K)
    with_reducible refine wpStill_nil ?_
    change wpList _ _ _ _ _ W1.drew
    go_wp2_with (go_at_call 62; (with_reducible refine (need_no _ _).mono ?_); rintro e w2 ⟨rfl, rfl⟩)
    exact ⟨rfl, .inr rfl, HFIN.out.1, HFIN.out.2⟩
  · have d3 : decide (at_ ≥ 0) = false := decide_eq_false h1
    clear ha h1
    go_enter Try.func104, Try.ntmps104
    go_wp2_with (go_at_call 62; (with_reducible refine (need_ok _ _).mono ?_); rintro e w2 ⟨rfl, rfl⟩)
    rw [HW1.out]
    rw [HW1.out] at q0 q1 q2 q3 qh
    refine wp_region_still_tail 14 (by kernel_rfl) (by kernel_rfl) ?_
    simp only [List.take_succ_cons, List.take_zero, List.drop_succ_cons, List.drop_zero]
    iterate 14 ((with_reducible refine wpStill_step (fun K hK => ?_)); go_simp; (with_reducible refine hK _ ?_); clear hK K)
    with_reducible refine wpStill_nil ?_
    change wpList _ _ _ _ _ W1.drew
    go_wp2_with (go_at_call 62; (with_reducible refine (need_no _ _).mono ?_); rintro e w2 ⟨rfl, rfl⟩)
    exact ⟨rfl, .inr rfl, HFIN.out.1, HFIN.out.2⟩
set_option maxHeartbeats 4000000 in
theorem dclo_any (B H Tb Hb : Nat) (ps told : List Pc) (lost : Int) (kind : Int) (G k : Nat) (bit : Int) (m : W32) (E : Ending) (r : Int × (List Pc × Int × List Pc)) (W : World) (hT : W.heap[Tb]? = some (.cells #[.int .i64 kind, .int .i64 k, .int .i64 bit, .int .u32 (nb m)] 48 (0, 0))) (hH : W.heap[Hb]? = some (.cells #[.pointer (some ⟨H, 0, none⟩)] 98 (0, 0)))
    (hR : HandR B H ps lost told W) (hB : B ≤ W.heap.size) (ha : k < ps.length) (hkG : (kind = 1 ∧ G = 105) ∨ (kind = 2 ∧ G = 106) ∨ (kind = 3 ∧ G = 107) ∨ (kind = 4 ∧ G = 108)) (hE : (E = .returned (.tuple #[]) ∧ r.1 = 0) ∨ E = errP r.1)
    (hcall : ∀ X, HandR B H ps lost told X → B ≤ X.heap.size → Calls Try.prog G #[.pointer (some ⟨H, 0, none⟩), trickV kind k bit m] X fun e w' => e = E ∧ HandR B H r.2.1 r.2.2.1 r.2.2.2 w' ∧ Fr B X w') :
    Calls Try.prog 104 #[.pointer (some ⟨Tb, 0, none⟩), .pointer (some ⟨Hb, 0, none⟩)] W (DoesOut B H r W) := by
  have HD := Lib.hid (fun X hX => df_of (X := X) hT hH hR hB hX)
  obtain ⟨q0, q1, q2, q3, qh, _, _, _⟩ := HD.out _ (below_al (Below.refl _ _) (.cells #[.nilFunc, .func (.func 105) #[] #[], .func (.func 106) #[] #[], .func (.func 107) #[] #[], .func (.func 108) #[] #[]] 140))
  obtain ⟨W1, hW1⟩ : ∃ W1, W.alloc (.cells #[.nilFunc, .func (.func 105) #[] #[], .func (.func 106) #[] #[], .func (.func 107) #[] #[], .func (.func 108) #[] #[]] 140) = W1 := ⟨_, rfl⟩
  obtain ⟨W2, hW2⟩ : ∃ W2, W1.drew = W2 := ⟨_, rfl⟩
  have HW1 := Lib.hid hW1
  have HW2 := Lib.hid hW2
  have hb1 : Below W.heap.size W W1 := by rw [← hW1]; exact below_al (Below.refl _ _) _
  have hb2 : Below W.heap.size W W2 := by rw [← hW2]; exact below_dr hb1
  have hbox : W2.heap[W.heap.size]? = some (.cells #[.nilFunc, .func (.func 105) #[] #[], .func (.func 106) #[] #[], .func (.func 107) #[] #[], .func (.func 108) #[] #[]] 140 (0, 0)) := by rw [← hW2, ← hW1]; exact new_here W _
  have p1 : W2.cell? ⟨W.heap.size, 1, none⟩ = some (.func (.func 105) #[] #[]) := cell_of_heap hbox
  have p2 : W2.cell? ⟨W.heap.size, 2, none⟩ = some (.func (.func 106) #[] #[]) := cell_of_heap hbox
  have p3 : W2.cell? ⟨W.heap.size, 3, none⟩ = some (.func (.func 107) #[] #[]) := cell_of_heap hbox
  have p4 : W2.cell? ⟨W.heap.size, 4, none⟩ = some (.func (.func 108) #[] #[]) := cell_of_heap hbox
  obtain ⟨r0, r1, r2, r3, rh, _, _, _⟩ := HD.out _ hb2
  obtain ⟨A, c, qc⟩ := (HD.out _ hb1).c0
  have HC := Lib.hid (hcall W2.drew (HD.out _ (below_dr hb2)).hand (Nat.le_trans hB (below_dr hb2).size))
  have HF := Lib.hid (Fr.of_below hB (below_dr hb2))
  have HE := Lib.hid hE
  have d3 : decide ((k : Int) ≥ 0) = true := decide_eq_true (by omega)
  have d4 : decide ((k : Int) < (ps.length : Int)) = true := decide_eq_true (by omega)
  clear hT hH hR hB hW1 hW2 hb1 hb2 hbox hcall hE
  rcases hkG with ⟨rfl, rfl⟩ | ⟨rfl, rfl⟩ | ⟨rfl, rfl⟩ | ⟨rfl, rfl⟩
  all_goals
    rcases HE.out with ⟨rfl, h0⟩ | rfl
    all_goals
      go_enter Try.func104, Try.ntmps104
      go_wp2_with (go_at_call 62; (with_reducible refine (need_ok _ _).mono ?_); rintro e w2 ⟨rfl, rfl⟩)
      rw [HW1.out]
      rw [HW1.out] at q0 q1 q2 q3 qh
      go_still_tail 14, (by kernel_rfl)
      change wpList _ _ _ _ _ W1.drew
      rw [HW2.out]
      go_wp2_with (go_at_call 62; (with_reducible refine (need_ok _ _).mono ?_); rintro e w2 ⟨rfl, rfl⟩)
      go_still_tail 6, (by kernel_rfl)
      change wpList _ _ _ _ _ W2.drew
      go_wp2_with (refine HC.out.mono ?_; rintro e w5 ⟨rfl, hr, hf⟩)
      first
        | (go_end0; exact ⟨.inl ⟨rfl, h0⟩, hr, HF.out.trans hf⟩)
        | (exact ⟨rfl, .inr rfl, hr, HF.out.trans hf⟩)
end Go.Proofs.Ytnhmhnejglpijaa
