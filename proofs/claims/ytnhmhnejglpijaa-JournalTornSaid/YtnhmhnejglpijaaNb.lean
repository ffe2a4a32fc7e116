/- net: parcels in memory. -/
import Derived.Test.YtnhmhnejglpijaaDc
import Derived.Test.YtnhmhnejglpijaaNa
namespace Go.Proofs.Ytnhmhnejglpijaa
open Go.RowKit
set_option maxRecDepth 100000
set_option linter.unusedSimpArgs false
set_option linter.unusedVariables false
structure Pc where
  site : Int
  bytes : List B8
  sp : Bool
instance : Inhabited Pc := ⟨⟨0, [], false⟩⟩
/-- parcel number j of a row -/
def pcAt (ps : List Pc) (j : Nat) : Pc := ps.getD j default
/-- The slice v holds parcels. -/
def Pcs (w : World) (v : Value) (ps : List Pc) : Prop :=
  ∃ A cap, v = .slice A ps.length cap ∧ ps.length ≤ cap ∧ cap ≤ maxLen ∧ (0 < ps.length → ∃ b off, A = some ⟨b, off, none⟩ ∧ ∀ j, j < ps.length → ∃ A' c',
    w.cell? ⟨b, off + j * 3, none⟩ = some (.int .i64 (pcAt ps j).site) ∧ w.cell? ⟨b, off + j * 3 + 1, none⟩ = some (.slice A' (pcAt ps j).bytes.length c') ∧
    w.cell? ⟨b, off + j * 3 + 2, none⟩ = some (.bool (pcAt ps j).sp) ∧ Bys w (.slice A' (pcAt ps j).bytes.length c') (pcAt ps j).bytes)
theorem Pcs.below {w w' : World} {v : Value} {ps : List Pc} (h : Pcs w v ps) (hb : Below w.heap.size w w') : Pcs w' v ps := by
  obtain ⟨A, cap, e, h1, h2, h3⟩ := h
  refine ⟨A, cap, e, h1, h2, fun h0 => ?_⟩
  obtain ⟨b, off, eA, hc⟩ := h3 h0
  refine ⟨b, off, eA, fun j hj => ?_⟩
  obtain ⟨A', c', k1, k2, k3, k4⟩ := hc j hj
  exact ⟨A', c', (hb.cell (p := ⟨b, off + j * 3, none⟩) (World.block_lt_of_cell? w _ k1)).trans k1, (hb.cell (p := ⟨b, off + j * 3 + 1, none⟩) (World.block_lt_of_cell? w _ k2)).trans k2,
    (hb.cell (p := ⟨b, off + j * 3 + 2, none⟩) (World.block_lt_of_cell? w _ k3)).trans k3, k4.below hb⟩
theorem Pcs.len {w : World} {v : Value} {ps : List Pc} (h : Pcs w v ps) : ∃ A cap, v = .slice A ps.length cap ∧ ps.length ≤ 9223372036854775807 := by
  obtain ⟨A, cap, e, h1, h2, _⟩ := h
  unfold maxLen at h2
  exact ⟨A, cap, e, by omega⟩
/-! ### Rows of cells that can be read -/
def RowC (w : World) (v : Value) (n : Nat) (xs : List Value) : Prop :=
  ∃ A cap, v = .slice A n cap ∧ n ≤ cap ∧ cap ≤ maxLen ∧ xs.length = n * 3 ∧ (0 < n → ∃ b off, A = some ⟨b, off, none⟩ ∧ ∀ j u, xs[j]? = some u → w.cell? ⟨b, off + j, none⟩ = some u)
theorem RowC.below {w w' : World} {v : Value} {n : Nat} {xs : List Value} (h : RowC w v n xs) (hb : Below w.heap.size w w') : RowC w' v n xs := by
  obtain ⟨A, cap, e, h0, h1, h2, h3⟩ := h
  refine ⟨A, cap, e, h0, h1, h2, fun hn => ?_⟩
  obtain ⟨b, off, eA, hc⟩ := h3 hn
  exact ⟨b, off, eA, fun j u hu => (hb.cell (p := ⟨b, off + j, none⟩) (World.block_lt_of_cell? w _ (hc j u hu))).trans (hc j u hu)⟩
/-! ### Parcels of the call's own -/
def qcells (qs : List (Pc × Value)) : List Value := qs.flatMap fun q => [.int .i64 q.1.site, q.2, .bool q.1.sp]
theorem qcells_nil : qcells [] = [] := rfl
theorem qcells_cons (q : Pc × Value) (qs : List (Pc × Value)) : qcells (q :: qs) = .int .i64 q.1.site :: q.2 :: .bool q.1.sp :: qcells qs := rfl
theorem qcells_append (a b : List (Pc × Value)) : qcells (a ++ b) = qcells a ++ qcells b := by simp [qcells]
theorem qcells_length (qs : List (Pc × Value)) : (qcells qs).length = qs.length * 3 := by
  induction qs with
  | nil => rfl
  | cons q qs ih => rw [qcells_cons]; simp only [List.length_cons, ih]; omega
theorem qcells_get (qs : List (Pc × Value)) : ∀ j, (hj : j < qs.length) → (qcells qs)[j * 3]? = some (.int .i64 qs[j].1.site) ∧ (qcells qs)[j * 3 + 1]? = some qs[j].2 ∧ (qcells qs)[j * 3 + 2]? = some (.bool qs[j].1.sp) := by
  induction qs with
  | nil => intro j hj; simp at hj
  | cons q qs ih =>
    intro j hj
    rw [qcells_cons]
    cases j with
    | zero => exact ⟨rfl, rfl, rfl⟩
    | succ j =>
      have h := ih j (by simpa using hj)
      rw [show (j + 1) * 3 = j * 3 + 3 from by omega]
      exact h
theorem qcells_take (qs : List (Pc × Value)) (k : Nat) : (qcells qs).take (k * 3) = qcells (qs.take k) := by
  induction qs generalizing k with
  | nil => simp [qcells]
  | cons q qs ih =>
    cases k with
    | zero => simp [qcells]
    | succ k =>
      rw [List.take_succ_cons, qcells_cons, qcells_cons, show (k + 1) * 3 = k * 3 + 3 from by omega]
      simp only [List.take_succ_cons, ih]
theorem qcells_drop (qs : List (Pc × Value)) (k : Nat) : (qcells qs).drop (k * 3) = qcells (qs.drop k) := by
  induction qs generalizing k with
  | nil => simp [qcells]
  | cons q qs ih =>
    cases k with
    | zero => simp [qcells]
    | succ k =>
      rw [List.drop_succ_cons, qcells_cons, show (k + 1) * 3 = k * 3 + 3 from by omega]
      simp only [List.drop_succ_cons, ih]
theorem pcAt_map (qs : List (Pc × Value)) (j : Nat) (hj : j < qs.length) : pcAt (qs.map (·.1)) j = qs[j].1 := by
  simp [pcAt, List.getD_eq_getElem?_getD, hj]
def OwnQs (w : World) (B : Nat) (v : Value) (qs : List (Pc × Value)) : Prop := w.ownsRow B 36 3 v qs.length (qcells qs) ∧ ∀ q, q ∈ qs → Own8 w B q.2 q.1.bytes
def OwnPs (w : World) (B : Nat) (v : Value) (ps : List Pc) : Prop := ∃ qs : List (Pc × Value), qs.map (·.1) = ps ∧ OwnQs w B v qs
theorem OwnPs.nil (w : World) (B : Nat) : OwnPs w B (.slice none 0 0) [] := ⟨[], rfl, World.ownsRow_nil w B 36 3, fun q h => by cases h⟩
theorem own8_shape {w : World} {B : Nat} {v : Value} {bs : List B8} (h : Own8 w B v bs) : ∃ A c, v = .slice A bs.length c := by
  obtain ⟨A, c, e, _⟩ := h.bys
  exact ⟨A, c, e⟩
theorem OwnPs.pcs {w : World} {B : Nat} {v : Value} {ps : List Pc} (h : OwnPs w B v ps) : Pcs w v ps := by
  obtain ⟨qs, rfl, ho, hq⟩ := h
  rcases ho.2 with ⟨rfl, hn⟩ | ⟨g, cap, cur, rfl, hb, hgg, hnc, hcm, hsz, ht⟩
  · exact ⟨none, 0, by simp [hn], by simp [hn], by simp [maxLen], fun h => by simp [hn] at h⟩
  · refine ⟨some ⟨g, 0, none⟩, cap, by rw [List.length_map], by rw [List.length_map]; exact hnc, hcm, fun _ => ⟨g, 0, rfl, fun j hj => ?_⟩⟩
    rw [List.length_map] at hj
    have hc := World.ownsRow.cells ho rfl
    obtain ⟨e0, e1, e2⟩ := qcells_get qs j hj
    have f0 := hc _ _ e0
    have f1 := hc _ _ e1
    have f2 := hc _ _ e2
    rw [add_plain] at f0 f1 f2
    have hb8 := hq qs[j] (List.getElem_mem hj)
    obtain ⟨A', c', e⟩ := own8_shape hb8
    rw [pcAt_map qs j hj]
    refine ⟨A', c', by rw [Nat.zero_add]; exact f0, by rw [Nat.zero_add, ← e]; exact f1, by rw [Nat.zero_add]; exact f2, by rw [← e]; exact hb8.bys⟩
theorem own8_type {w : World} {B : Nat} {v : Value} {bs : List B8} (h : Own8 w B v bs) : ∀ k, v.ownBlock = some k → ∃ cur, w.heap[k]? = some (.cells cur 5 (0, 0)) := by
  intro k hk
  rcases h.2 with ⟨rfl, _⟩ | ⟨g, cap, cur, rfl, _, hg, _⟩
  · simp [Value.ownBlock] at hk
  · simp [Value.ownBlock] at hk
    subst hk
    exact ⟨cur, hg⟩
theorem row_type {w : World} {B e s n : Nat} {v : Value} {xs : List Value} (h : w.ownsRow B e s v n xs) : ∀ k, v.ownBlock = some k → ∃ cur, w.heap[k]? = some (.cells cur e (0, 0)) := by
  intro k hk
  rcases h.2 with ⟨rfl, _⟩ | ⟨g, cap, cur, rfl, _, hg, _⟩
  · simp [Value.ownBlock] at hk
  · simp [Value.ownBlock] at hk
    subst hk
    exact ⟨cur, hg⟩
/-- the block row holds no bytes -/
def NoBytes (w : World) (row : Option Nat) : Prop := ∀ b, row = some b → ∃ cur t f, t ≠ 5 ∧ w.heap[b]? = some (.cells cur t f)
theorem Own8.keptN {w w' : World} {B : Nat} {v : Value} {bs : List B8} {row : Option Nat} (h : Own8 w B v bs) (hg : w.grownBy w' row) (hn : NoBytes w row) : Own8 w' B v bs := by
  refine World.ownsRow.kept h hg ?_
  cases hv : v.ownBlock with
  | none => exact .inl rfl
  | some k =>
    refine .inr fun e => ?_
    obtain ⟨cur, h1⟩ := own8_type h k hv
    obtain ⟨cur', t, f, ht, h2⟩ := hn k e.symm
    rw [h1] at h2
    cases h2
    exact ht rfl
theorem OwnQs.kept {w w' : World} {B : Nat} {v : Value} {qs : List (Pc × Value)} {row : Option Nat} (h : OwnQs w B v qs) (hg : w.grownBy w' row) (hn : NoBytes w row) (hne : v.ownBlock = none ∨ v.ownBlock ≠ row) : OwnQs w' B v qs :=
  ⟨h.1.kept hg hne, fun q hq => (h.2 q hq).keptN hg hn⟩
theorem OwnPs.kept {w w' : World} {B : Nat} {v : Value} {ps : List Pc} {row : Option Nat} (h : OwnPs w B v ps) (hg : w.grownBy w' row) (hn : NoBytes w row) (hne : v.ownBlock = none ∨ v.ownBlock ≠ row) : OwnPs w' B v ps := by
  obtain ⟨qs, e, h⟩ := h
  exact ⟨qs, e, h.kept hg hn hne⟩
theorem grown_of_below {w w' : World} (hb : Below w.heap.size w w') : w.grownBy w' none := ⟨hb.os, hb.tape, hb.output, hb.size, fun k hk _ => hb.block k hk⟩
theorem noBytes_none (w : World) : NoBytes w none := fun b h => by cases h
theorem own_ne_none {v : Value} : v.ownBlock = none ∨ v.ownBlock ≠ none := by cases v.ownBlock <;> simp
theorem OwnPs.below {w w' : World} {B : Nat} {v : Value} {ps : List Pc} (h : OwnPs w B v ps) (hb : Below w.heap.size w w') : OwnPs w' B v ps := h.kept (grown_of_below hb) (noBytes_none w) own_ne_none
theorem OwnQs.below {w w' : World} {B : Nat} {v : Value} {qs : List (Pc × Value)} (h : OwnQs w B v qs) (hb : Below w.heap.size w w') : OwnQs w' B v qs := h.kept (grown_of_below hb) (noBytes_none w) own_ne_none
theorem OwnPs.base {w : World} {B B' : Nat} {v : Value} {ps : List Pc} (h : OwnPs w B v ps) (hB : B' ≤ B) : OwnPs w B' v ps := by
  obtain ⟨qs, e, h1, h2⟩ := h
  refine ⟨qs, e, ⟨h1.1, ?_⟩, fun q hq => (h2 q hq).base hB⟩
  rcases h1.2 with hn | ⟨g, cap, cur, rfl, hb, rest⟩
  · exact .inl hn
  · exact .inr ⟨g, cap, cur, rfl, Nat.le_trans hB hb, rest⟩
theorem Try.info36 : (Try.prog.info? 36).map (fun i => (i.zero, i.size, i.bytes)) = some (some (.agg #[.int .i64 0, .slice none 0 0, .bool false]), 3, 40) := by kernel_rfl
theorem own8_one {w : World} {B : Nat} {v : Value} {bs : List B8} (h : Own8 w B v bs) : v.oneCell' = true := by
  obtain ⟨A, c, rfl⟩ := own8_shape h
  rfl
theorem qcells_one {w : World} {B : Nat} {v : Value} {qs : List (Pc × Value)} (h : ∀ q, q ∈ qs → Own8 w B q.2 q.1.bytes) : ∀ u, u ∈ qcells qs → u.oneCell' = true := by
  intro u hu
  simp only [qcells, List.mem_flatMap, List.mem_cons, List.not_mem_nil, or_false] at hu
  obtain ⟨q, hq, rfl | rfl | rfl⟩ := hu
  · rfl
  · exact own8_one (h q hq)
  · rfl
end Go.Proofs.Ytnhmhnejglpijaa
