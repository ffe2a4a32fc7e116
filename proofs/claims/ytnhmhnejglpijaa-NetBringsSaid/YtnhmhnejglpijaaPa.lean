/- law25: NetBrings: the plain law. -/
import Derived.Test.YtnhmhnejglpijaaOa
namespace Go.Proofs.Ytnhmhnejglpijaa
open Go.RowKit
set_option maxRecDepth 100000
set_option linter.unusedSimpArgs false
set_option linter.unusedVariables false
/-- what somebody does -/
structure Ac where
  sends : Bool
  dest : Int
  bytes : List B8
  kind : Int
  at_ : Int
  bit : Int
  mask : W32
instance : Inhabited Ac := ⟨⟨false, 0, [], 0, 0, 0, 0#32⟩⟩
/-- what is known of a parcel under way -/
def PcOk (sent : List (List B8)) (p : Pc) : Prop := mayP p = true ∧ (if p.sp = true then openedW p.bytes = none else p.bytes ∈ sent ∧ ∃ x : List B8, x.length ≤ 40 ∧ p.bytes = sealW x)
structure BS where
  ps : List Pc
  lost : Int
  sent : List (List B8)
  more : Int
  less : Int
structure BInv (s : BS) (k : Nat) : Prop where
  r : rightB s.ps s.lost = true
  l0 : 0 ≤ s.lost
  lk : s.lost ≤ k
  nk : s.sent.length ≤ k
  ok : ∀ p, p ∈ s.ps → PcOk s.sent p
  sum : (s.ps.length : Int) + s.less + s.lost = s.more
  m0 : 0 ≤ s.more ∧ s.more ≤ k
  e0 : 0 ≤ s.less ∧ s.less ≤ k
theorem right_iff {ps : List Pc} {lost : Int} : rightB ps lost = true ↔ ps.length ≤ 64 ∧ lost ≤ 4611686018427387904 ∧ ∀ p, p ∈ ps → mayP p = true := by
  unfold rightB
  simp [and_assoc]
theorem PcOk.more {sent : List (List B8)} {b : List B8} {p : Pc} (h : PcOk sent p) : PcOk (sent ++ [b]) p := by
  refine ⟨h.1, ?_⟩
  have h2 := h.2
  by_cases hs : p.sp = true
  · rw [if_pos hs] at h2 ⊢
    exact h2
  · rw [if_neg hs] at h2 ⊢
    exact ⟨List.mem_append_left _ h2.1, h2.2⟩
theorem PcOk.new {sent : List (List B8)} {site : Int} {x : List B8} (h0 : 0 ≤ site) (h8 : site ≤ 8) (hx : x.length ≤ 40) : PcOk (sent ++ [sealW x]) ⟨site, sealW x, false⟩ := by
  refine ⟨?_, ?_⟩
  · unfold mayP mayV
    rw [decide_eq_true_eq, sealW_length]
    exact ⟨h0, h8, by omega⟩
  · rw [if_neg (by simp)]
    exact ⟨by simp, x, hx, rfl⟩
theorem PcOk.spoilt {sent : List (List B8)} {p : Pc} {bit : Int} {m : W32} {l : List B8} (h : PcOk sent p) (hs : ¬ p.sp = true) (hl : spoilI p.bytes bit m = some l) : PcOk sent ⟨p.site, l, true⟩ := by
  obtain ⟨h1, h2⟩ := h
  rw [if_neg hs] at h2
  obtain ⟨_, x, hx, e⟩ := h2
  unfold spoilI at hl
  split at hl
  · rename_i hb
    unfold spoilW at hl
    split at hl
    · rename_i hS
      cases hl
      refine ⟨?_, ?_⟩
      · unfold mayP at h1 ⊢
        rw [spoilK_length]
        exact h1
      · rw [if_pos rfl]
        show openedW (spoilK p.bytes bit.toNat m 32) = none
        rw [e] at hS hb ⊢
        exact opened_spoilt x bit.toNat m (by omega) hS
    · cases hl
  · cases hl
theorem sentPs_mem {ps : List Pc} {p q : Pc} (h : q ∈ sentPs ps p) : q ∈ ps ∨ q = p := by
  unfold sentPs at h
  split at h
  · simpa using h
  · exact .inl h
theorem sent_right {ps : List Pc} {lost : Int} {p : Pc} (h : rightB ps lost = true) (hl : lost ≤ 60) (hp : mayP p = true) : rightB (sentPs ps p) (sentLost ps lost) = true := by
  rw [right_iff] at h ⊢
  obtain ⟨h1, h2, h3⟩ := h
  refine ⟨?_, ?_, fun q hq => ?_⟩
  · unfold sentPs
    split
    · simp; omega
    · exact h1
  · unfold sentLost
    split
    · exact h2
    · omega
  · rcases sentPs_mem hq with hq | rfl
    · exact h3 q hq
    · exact hp
theorem sent_sum (ps : List Pc) (lost : Int) (p : Pc) (hl : lost ≤ 60) : ((sentPs ps p).length : Int) + sentLost ps lost = ps.length + lost + 1 ∧ lost ≤ sentLost ps lost ∧ sentLost ps lost ≤ lost + 1 := by
  unfold sentPs sentLost
  split
  · simp; omega
  · omega
theorem BInv.next {s : BS} {k : Nat} (h : BInv s k) : BInv s (k + 1) :=
  ⟨h.r, h.l0, by have := h.lk; omega, by have := h.nk; omega, h.ok, h.sum, by have := h.m0; omega, by have := h.e0; omega⟩
theorem BInv.start : BInv ⟨[], 0, [], 0, 0⟩ 0 :=
  ⟨by decide, by decide, by decide, by decide, (fun p h => by cases h), rfl, by decide, by decide⟩
theorem sendN_one {ps : List Pc} {lost : Int} {p : Pc} (h : rightB ps lost = true) (hp : sendable p = true) : sendN ps lost [p] = (0, sentPs ps p, sentLost ps lost) := by
  unfold sendN
  rw [if_pos h, if_pos (by simpa using hp)]
  rfl
theorem BInv.send {s : BS} {k : Nat} (h : BInv s k) (hk : k < 60) {site : Int} {x : List B8} (h0 : 0 ≤ site) (h8 : site ≤ 8) (hx : x.length ≤ 40) :
    sendN s.ps s.lost [⟨site, sealW x, false⟩] = (0, sentPs s.ps ⟨site, sealW x, false⟩, sentLost s.ps s.lost) ∧
    BInv ⟨sentPs s.ps ⟨site, sealW x, false⟩, sentLost s.ps s.lost, s.sent ++ [sealW x], s.more + 1, s.less⟩ (k + 1) := by
  have hn := PcOk.new (sent := s.sent) h0 h8 hx
  have hlk := h.lk
  obtain ⟨q1, q2, q3⟩ := sent_sum s.ps s.lost ⟨site, sealW x, false⟩ (by omega)
  refine ⟨sendN_one h.r ?_, sent_right h.r (by omega) hn.1, ?_, ?_, ?_, ?_, ?_, ?_, ?_⟩
  · unfold sendable
    rw [hn.1]
    rfl
  · have := h.l0
    show 0 ≤ sentLost _ _
    omega
  · show sentLost _ _ ≤ _
    omega
  · have := h.nk
    simp; omega
  · intro p hp
    rcases sentPs_mem hp with hp | rfl
    · exact (h.ok p hp).more
    · exact hn
  · have := h.sum
    show ((sentPs s.ps _).length : Int) + s.less + sentLost _ _ = s.more + 1
    omega
  · have := h.m0
    show 0 ≤ s.more + 1 ∧ s.more + 1 ≤ _
    omega
  · have := h.e0
    show 0 ≤ s.less ∧ s.less ≤ _
    omega
def BRes (s : BS) (k : Nat) (kind : Int) (r : List Pc × Int × Pc) : Prop :=
  (kind = 1 → PcOk s.sent r.2.2 ∧ BInv ⟨r.1, r.2.1, s.sent, s.more, s.less + 1⟩ (k + 1)) ∧ (kind = 2 → BInv ⟨r.1, r.2.1, s.sent, s.more, s.less + 1⟩ (k + 1)) ∧
  (kind = 3 → BInv ⟨r.1, r.2.1, s.sent, s.more + 1, s.less⟩ (k + 1)) ∧ (kind ≠ 1 → kind ≠ 2 → kind ≠ 3 → BInv ⟨r.1, r.2.1, s.sent, s.more, s.less⟩ (k + 1))
theorem erase_right {ps : List Pc} {lost : Int} {j : Nat} (h : rightB ps lost = true) : rightB (ps.eraseIdx j) lost = true := by
  rw [right_iff] at h ⊢
  refine ⟨Nat.le_trans (List.length_eraseIdx_le _ _) h.1, h.2.1, fun p hp => h.2.2 p (List.mem_of_mem_eraseIdx hp)⟩
theorem BInv.do_ {s : BS} {k : Nat} (h : BInv s k) (hk : k < 60) (kind at_ bit : Int) (m : W32) (h0 : (doN s.ps s.lost kind at_ bit m).1 = 0) : BRes s k kind (doN s.ps s.lost kind at_ bit m).2 := by
  have hlk := h.lk
  have hl0 := h.l0
  have hm0 := h.m0
  have he0 := h.e0
  have hsum := h.sum
  unfold doN at h0 ⊢
  rw [if_pos h.r] at h0 ⊢
  by_cases hd : (doesP s.ps s.lost [] kind at_ bit m).1 = 0
  · rw [if_pos hd] at h0 ⊢
    clear h0
    unfold doesP at hd ⊢
    by_cases hkd : 1 ≤ kind ∧ kind ≤ 4
    · rw [if_pos hkd] at hd ⊢
      by_cases hat : 0 ≤ at_ ∧ at_ < (s.ps.length : Int)
      · rw [if_pos hat] at hd ⊢
        have hj : at_.toNat < s.ps.length := by omega
        have hmem : pcAt s.ps at_.toNat ∈ s.ps := pcAt_mem hj
        have hlen : (s.ps.eraseIdx at_.toNat).length = s.ps.length - 1 := by rw [List.length_eraseIdx_of_lt hj]
        generalize at_.toNat = j at *
        have hbase : BInv ⟨s.ps.eraseIdx j, s.lost, s.sent, s.more, s.less + 1⟩ (k + 1) :=
          ⟨erase_right h.r, h.l0, by show s.lost ≤ _; omega, by have := h.nk; show s.sent.length ≤ _; omega, fun p hp => h.ok p (List.mem_of_mem_eraseIdx hp), by show ((s.ps.eraseIdx j).length : Int) + (s.less + 1) + s.lost = s.more; omega, by show 0 ≤ s.more ∧ s.more ≤ _; omega, by show 0 ≤ s.less + 1 ∧ s.less + 1 ≤ _; omega⟩
        by_cases k1 : kind = 1
        · rw [if_pos k1] at hd ⊢
          exact ⟨fun _ => ⟨h.ok _ hmem, hbase⟩, fun e => absurd e (by omega), fun e => absurd e (by omega), fun e => absurd k1 e⟩
        · rw [if_neg k1] at hd ⊢
          by_cases k2 : kind = 2
          · rw [if_pos k2] at hd ⊢
            exact ⟨fun e => absurd e k1, fun _ => hbase, fun e => absurd e (by omega), fun _ e => absurd k2 e⟩
          · rw [if_neg k2] at hd ⊢
            by_cases k3 : kind = 3
            · rw [if_pos k3] at hd ⊢
              refine ⟨fun e => absurd e k1, fun e => absurd e k2, fun _ => ?_, fun _ _ e => absurd k3 e⟩
              obtain ⟨q1, q2, q3⟩ := sent_sum s.ps s.lost (pcAt s.ps j) (by omega)
              refine ⟨sent_right h.r (by omega) (h.ok _ hmem).1, ?_, ?_, ?_, ?_, ?_, ?_, ?_⟩
              · show 0 ≤ sentLost _ _
                omega
              · show sentLost _ _ ≤ _
                omega
              · have := h.nk
                show s.sent.length ≤ _
                omega
              · intro p hp
                rcases sentPs_mem hp with hp | rfl
                · exact h.ok p hp
                · exact h.ok _ hmem
              · show ((sentPs s.ps _).length : Int) + s.less + sentLost _ _ = s.more + 1
                omega
              · show 0 ≤ s.more + 1 ∧ s.more + 1 ≤ _
                omega
              · show 0 ≤ s.less ∧ s.less ≤ _
                omega
            · rw [if_neg k3] at hd ⊢
              by_cases hsp : (pcAt s.ps j).sp = true
              · rw [if_pos hsp] at hd
                exact absurd hd (by simp)
              · rw [if_neg hsp] at hd ⊢
                cases hl : spoilI (pcAt s.ps j).bytes bit m with
                | none =>
                  rw [hl] at hd
                  exact absurd hd (by simp)
                | some l =>
                  have hnew := (h.ok _ hmem).spoilt hsp hl
                  refine ⟨fun e => absurd e k1, fun e => absurd e k2, fun e => absurd e k3, fun _ _ _ => ?_⟩
                  have hr := h.r
                  rw [right_iff] at hr
                  refine ⟨?_, h.l0, by show s.lost ≤ _; omega, by have := h.nk; show s.sent.length ≤ _; omega, ?_, ?_, by show 0 ≤ s.more ∧ s.more ≤ _; omega, by show 0 ≤ s.less ∧ s.less ≤ _; omega⟩
                  · rw [right_iff]
                    refine ⟨by simpa using hr.1, hr.2.1, fun p hp => ?_⟩
                    rcases List.mem_or_eq_of_mem_set hp with hp | rfl
                    · exact hr.2.2 p hp
                    · exact hnew.1
                  · intro p hp
                    rcases List.mem_or_eq_of_mem_set hp with hp | rfl
                    · exact h.ok p hp
                    · exact hnew
                  · show ((s.ps.set j _).length : Int) + s.less + s.lost = s.more
                    rw [List.length_set]
                    omega
      · rw [if_neg hat] at hd
        exact absurd hd (by simp)
    · rw [if_neg hkd] at hd
      exact absurd hd (by simp)
  · rw [if_neg hd] at h0
    exact absurd h0 hd
end Go.Proofs.Ytnhmhnejglpijaa
