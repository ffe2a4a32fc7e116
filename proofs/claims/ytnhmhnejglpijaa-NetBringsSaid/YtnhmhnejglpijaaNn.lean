/- net: a trick, and what it comes to: walks. -/
import Derived.Test.YtnhmhnejglpijaaNm
namespace Go.Proofs.Ytnhmhnejglpijaa
open Go.RowKit
set_option maxRecDepth 100000
set_option linter.unusedSimpArgs false
set_option linter.unusedVariables false
/-- A net that may be: room, and each parcel may be. -/
structure NetOk (ps : List Pc) (lost : Int) : Prop where
  n64 : ps.length ≤ 64
  l0 : 0 ≤ lost
  l62 : lost ≤ 4611686018427387904
  bytes : ∀ k, k < ps.length → (pcAt ps k).bytes.length ≤ 8192
theorem dclo_calls (B H Tb Hb : Nat) (ps told : List Pc) (lost : Int) (kind at_ bit : Int) (m : W32) (W : World) (hT : W.heap[Tb]? = some (.cells #[.int .i64 kind, .int .i64 at_, .int .i64 bit, .int .u32 (nb m)] 48 (0, 0))) (hH : W.heap[Hb]? = some (.cells #[.pointer (some ⟨H, 0, none⟩)] 98 (0, 0)))
    (hR : HandR B H ps lost told W) (hB : B ≤ W.heap.size) (hO : NetOk ps lost) (htl : told.length ≤ 1000000) :
    Calls Try.prog 104 #[.pointer (some ⟨Tb, 0, none⟩), .pointer (some ⟨Hb, 0, none⟩)] W (DoesOut B H (doesP ps lost told kind at_ bit m) W) := by
  by_cases hk : 1 ≤ kind ∧ kind ≤ 4
  · by_cases ha : 0 ≤ at_ ∧ at_ < (ps.length : Int)
    · obtain ⟨k, rfl⟩ := Int.eq_ofNat_of_zero_le ha.1
      have hkl : k < ps.length := by omega
      have hpl := hO.bytes k hkl
      unfold doesP
      rw [if_pos hk, if_pos ha]
      simp only [Int.toNat_natCast]
      by_cases k1 : kind = 1
      · rw [if_pos k1]
        exact dclo_any B H Tb Hb ps told lost kind 105 k bit m _ _ W hT hH hR hB hkl (.inl ⟨k1, rfl⟩) (.inl ⟨rfl, rfl⟩) fun X hX hBX => take_calls B H ps told lost kind bit m k X hX hBX hkl hO.n64 htl
      rw [if_neg k1]
      by_cases k2 : kind = 2
      · rw [if_pos k2]
        exact dclo_any B H Tb Hb ps told lost kind 106 k bit m _ _ W hT hH hR hB hkl (.inr (.inl ⟨k2, rfl⟩)) (.inl ⟨rfl, rfl⟩) fun X hX hBX => drop_calls B H ps told lost kind bit m k X hX hBX hkl hO.n64
      rw [if_neg k2]
      by_cases k3 : kind = 3
      · rw [if_pos k3]
        exact dclo_any B H Tb Hb ps told lost kind 107 k bit m _ _ W hT hH hR hB hkl (.inr (.inr (.inl ⟨k3, rfl⟩))) (.inl ⟨rfl, rfl⟩) fun X hX hBX => twice_calls B H ps told lost kind bit m k X hX hBX hkl hO.n64 hpl hO.l0 hO.l62
      rw [if_neg k3]
      have k4 : kind = 4 := by omega
      by_cases hs : (pcAt ps k).sp = true
      · rw [if_pos hs]
        exact dclo_any B H Tb Hb ps told lost kind 108 k bit m _ _ W hT hH hR hB hkl (.inr (.inr (.inr ⟨k4, rfl⟩))) (.inr rfl) fun X hX hBX => spoil_there B H ps told lost kind bit m k X hX hBX hkl hO.n64 hs
      · rw [if_neg hs]
        have hs' : (pcAt ps k).sp = false := by simpa using hs
        cases hi : spoilI (pcAt ps k).bytes bit m with
        | none => exact dclo_any B H Tb Hb ps told lost kind 108 k bit m _ _ W hT hH hR hB hkl (.inr (.inr (.inr ⟨k4, rfl⟩))) (.inr rfl) fun X hX hBX => spoil_arg B H ps told lost kind bit m k X hX hBX hkl hO.n64 hpl hs' hi
        | some l => exact dclo_any B H Tb Hb ps told lost kind 108 k bit m _ _ W hT hH hR hB hkl (.inr (.inr (.inr ⟨k4, rfl⟩))) (.inl ⟨rfl, rfl⟩) fun X hX hBX => spoil_ok B H ps told lost kind bit m k l X hX hBX hkl hO.n64 hpl hs' hi
    · unfold doesP
      rw [if_pos hk, if_neg ha]
      exact dclo_at B H Tb Hb ps told lost kind at_ bit m W hT hH hR hB hk ha
  · unfold doesP
    rw [if_neg hk]
    exact dclo_kind B H Tb Hb ps told lost kind at_ bit m W hT hR hB hk
theorem e104 (args : Array Value) (w : World) : (callFunc 104 args).run Try.prog w = .ok (.enter 104 args) w := enters_of Try.func104 (by kernel_rfl) rfl args w
theorem does_calls (B H : Nat) (ps told : List Pc) (lost : Int) (kind at_ bit : Int) (m : W32) (W : World) (hR : HandR B H ps lost told W) (hB : B ≤ W.heap.size) (hO : NetOk ps lost) (htl : told.length ≤ 1000000) :
    Calls Try.prog 70 #[.pointer (some ⟨H, 0, none⟩), trickV kind at_ bit m] W fun e w' => e = .returned (.int .i64 (doesP ps lost told kind at_ bit m).1) ∧ HandR B H (doesP ps lost told kind at_ bit m).2.1 (doesP ps lost told kind at_ bit m).2.2.1 (doesP ps lost told kind at_ bit m).2.2.2 w' ∧ Fr B W w' := by
  have hmf : ∀ (fn : Fn) (first cap : Array Value) (w : World), (Instr.makeFunc fn first cap).run Try.prog w = .ok (.func fn first cap) w := fun _ _ _ _ => rfl
  generalize hr : doesP ps lost told kind at_ bit m = r
  obtain ⟨W2, hW2⟩ : ∃ W2, (W.alloc (.cells #[.pointer (some ⟨H, 0, none⟩)] 98)).alloc (.cells #[.int .i64 kind, .int .i64 at_, .int .i64 bit, .int .u32 (nb m)] 48) = W2 := ⟨_, rfl⟩
  have hz2 : W2.heap.size = W.heap.size + 1 + 1 := by rw [← hW2]; simp
  have hb2 : Below W.heap.size W W2 := by rw [← hW2]; exact below_al (below_al (Below.refl _ _) _) _
  have hHb : W2.heap[W.heap.size]? = some (.cells #[.pointer (some ⟨H, 0, none⟩)] 98 (0, 0)) := by rw [← hW2]; exact new_next _ _ (new_here W _)
  have hTb : W2.heap[W.heap.size + 1]? = some (.cells #[.int .i64 kind, .int .i64 at_, .int .i64 bit, .int .u32 (nb m)] 48 (0, 0)) := by
    rw [← hW2]
    have := new_here (W.alloc (.cells #[.pointer (some ⟨H, 0, none⟩)] 98)) (.cells #[.int .i64 kind, .int .i64 at_, .int .i64 bit, .int .u32 (nb m)] 48)
    rwa [World.size_alloc] at this
  have hb3 : Below W2.heap.size W2 (W2.alloc (.cells #[.int .i64 0] 28)) := below_al (Below.refl _ _) _
  have hd := dclo_calls B H (W.heap.size + 1) W.heap.size ps told lost kind at_ bit m (W2.alloc (.cells #[.int .i64 0] 28)) ((hb3.block _ (lt_of_heap hTb)).trans hTb) ((hb3.block _ (lt_of_heap hHb)).trans hHb) (hR.below (below_tr hb2 hb3)) (Nat.le_trans hB (below_tr hb2 hb3).size) hO htl
  rw [hr] at hd
  have HT : Hid (Calls Try.prog 59 #[.func (.func 104) #[] #[.pointer (some ⟨W.heap.size + 1, 0, none⟩), .pointer (some ⟨W.heap.size, 0, none⟩)]] W2 fun e w' => ∃ n w1, (n = r.1 ∧ HandR B H r.2.1 r.2.2.1 r.2.2.2 w1 ∧ Fr B (W2.alloc (.cells #[.int .i64 0] 28)) w1) ∧ e = .returned (.int .i64 n) ∧ w' = w1.setCell ⟨W2.heap.size, 0, none⟩ (.int .i64 n)) := Lib.hid (by
    refine tries_calls 104 _ W2 (fun n w1 => n = r.1 ∧ HandR B H r.2.1 r.2.2.1 r.2.2.2 w1 ∧ Fr B (W2.alloc (.cells #[.int .i64 0] 28)) w1) e104 (hd.mono ?_) ?_
    · rintro e w' ⟨(⟨rfl, h0⟩ | rfl), h1, h2⟩
      · exact .inl ⟨rfl, h0.symm, h1, h2⟩
      · exact .inr ⟨_, rfl, rfl, h1, h2⟩
    · rintro n w' ⟨_, _, h⟩
      exact h.keep _ _ _ _ (new_here W2 _) (by decide) (by decide))
  have HEND : Hid (∀ w1, HandR B H r.2.1 r.2.2.1 r.2.2.2 w1 → Fr B (W2.alloc (.cells #[.int .i64 0] 28)) w1 → HandR B H r.2.1 r.2.2.1 r.2.2.2 (w1.setCell ⟨W2.heap.size, 0, none⟩ (.int .i64 r.1)) ∧ Fr B W (w1.setCell ⟨W2.heap.size, 0, none⟩ (.int .i64 r.1))) := Lib.hid (fun w1 h1 h2 => by
    have hcell := h2.keep _ _ _ _ (new_here W2 _) (by decide) (by decide)
    have hg := grownBy_set w1 W2.heap.size 0 (.int .i64 r.1)
    obtain ⟨hBH, vp, vt, hh, hp, ht, hne⟩ := h1
    have hneH : W2.heap.size ≠ H := by
      rintro e
      rw [e, hh] at hcell
      cases hcell
    have hnb := noBytes_of hcell (by decide)
    have own : ∀ (v : Value) (qs : List Pc), OwnPs w1 B v qs → v.ownBlock = none ∨ v.ownBlock ≠ some W2.heap.size := fun v qs h => by
      cases hv : v.ownBlock with
      | none => exact .inl rfl
      | some k =>
        refine .inr fun e => ?_
        cases e
        obtain ⟨_, c, f, hc⟩ := h.type _ hv
        rw [hcell] at hc
        cases hc
    refine ⟨⟨hBH, vp, vt, ?_, hp.kept hg hnb (own _ _ hp), ht.kept hg hnb (own _ _ ht), hne⟩, ?_⟩
    · rw [hg.block H (lt_of_heap hh) (fun e => hneH (by cases e; rfl))]
      exact hh
    · have hf : Fr B W w1 := ((Fr.of_below hB (below_tr hb2 hb3))).trans h2
      refine ⟨hf.below.setCell (p := ⟨W2.heap.size, 0, none⟩) (by show B ≤ W2.heap.size; omega) _, fun b c t f hb h3 h4 => ?_⟩
      have hlt := lt_of_heap hb
      exact (hg.block b (by have := hf.size; omega) (fun e => by cases e; omega)).trans (hf.keep b c t f hb h3 h4))
  have HW2 := Lib.hid hW2
  clear hW2 hz2 hb2 hHb hTb hb3 hd hR hB hO htl hr
  go_enter Try.func70, Try.ntmps70
  go_wp2_with (go_at_call 59; rw [HW2.out]; (with_reducible refine HT.out.mono ?_); rintro e w' ⟨n, w1, ⟨rfl, h1, h2⟩, rfl, rfl⟩)
  go_ret
  exact ⟨rfl, (HEND.out w1 h1 h2).1, (HEND.out w1 h1 h2).2⟩
end Go.Proofs.Ytnhmhnejglpijaa
