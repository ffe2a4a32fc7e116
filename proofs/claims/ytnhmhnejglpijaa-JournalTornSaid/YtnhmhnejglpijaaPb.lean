/- Rows of bytes in memory, and rows of the call's own. -/
import Derived.Test.YtnhmhnejglpijaaNe
namespace Go.Proofs.Ytnhmhnejglpijaa
open Go.RowKit
set_option maxRecDepth 100000
set_option linter.unusedSimpArgs false
set_option linter.unusedVariables false
theorem Try.info34 : (Try.prog.info? 34).map (fun i => (i.zero, i.size, i.bytes)) = some (some (.slice none 0 0), 1, 24) := by kernel_rfl
def rowAt (rows : List (List B8)) (j : Nat) : List B8 := rows.getD j []
theorem rowAt_snoc (rows : List (List B8)) (k : Nat) (hk : k < rows.length) : rows.take k ++ [rowAt rows k] = rows.take (k + 1) := by
  rw [List.take_add_one]
  simp [rowAt, List.getD_eq_getElem?_getD, hk]
/-- The slice v holds rows of bytes. -/
def RwsA (w : World) (v : Value) (rows : List (List B8)) : Prop :=
  ∃ A cap, v = .slice A rows.length cap ∧ rows.length ≤ cap ∧ cap ≤ maxLen ∧ (0 < rows.length → ∃ b off, A = some ⟨b, off, none⟩ ∧ ∀ j, j < rows.length → ∃ sv, w.cell? ⟨b, off + j, none⟩ = some sv ∧ Bys w sv (rowAt rows j))
theorem RwsA.below {w w' : World} {v : Value} {rows : List (List B8)} (h : RwsA w v rows) (hb : Below w.heap.size w w') : RwsA w' v rows := by
  obtain ⟨A, cap, e, h1, h2, h3⟩ := h
  refine ⟨A, cap, e, h1, h2, fun h => ?_⟩
  obtain ⟨b, off, e, hc⟩ := h3 h
  refine ⟨b, off, e, fun j hj => ?_⟩
  obtain ⟨sv, h1, hb1⟩ := hc j hj
  exact ⟨sv, (hb.cell (p := ⟨b, off + j, none⟩) (World.block_lt_of_cell? w _ h1)).trans h1, hb1.below hb⟩
theorem RwsA.len {w : World} {v : Value} {rows : List (List B8)} (h : RwsA w v rows) : ∃ A cap, v = .slice A rows.length cap ∧ rows.length ≤ cap ∧ cap ≤ 9223372036854775807 := by
  obtain ⟨A, cap, e, h1, h2, _⟩ := h
  unfold maxLen at h2
  exact ⟨A, cap, e, h1, by omega⟩
theorem RwsA.rws {w : World} {v : Value} {rows : List (List B8)} (h : RwsA w v rows) (hl : rows.length ≤ 140737488355328) : Rws w v rows := by
  obtain ⟨A, cap, e, h1, h2, h3⟩ := h
  exact ⟨A, cap, e, hl, h3⟩
theorem RwsA.take {w : World} {A : Option Addr} {n c : Nat} {rows : List (List B8)} (h : RwsA w (.slice A n c) rows) (m : Nat) (hm : m ≤ n) : RwsA w (.slice A m c) (rows.take m) := by
  obtain ⟨A', cap, e, h1, h2, h3⟩ := h
  cases e
  have hl : (rows.take m).length = m := by simp; omega
  refine ⟨A, c, by rw [hl], by omega, h2, fun h0 => ?_⟩
  obtain ⟨b, off, eA, hc⟩ := h3 (by omega)
  refine ⟨b, off, eA, fun j hj => ?_⟩
  rw [hl] at hj
  have : rowAt (rows.take m) j = rowAt rows j := by simp [rowAt, List.getD_eq_getElem?_getD, List.getElem?_take, hj]
  rw [this]
  exact hc j (by omega)
/-- The slice v holds the bytes bs, in a block of bytes. -/
def Bt (w : World) (v : Value) (bs : List B8) : Prop := Bys w v bs ∧ ∀ b off n c, v = .slice (some ⟨b, off, none⟩) n c → 0 < bs.length → ∃ cur f, w.heap[b]? = some (.cells cur 5 f)
theorem Bt.kept {w w' : World} {v : Value} {bs : List B8} {row : Option Nat} (h : Bt w v bs) (hg : w.grownBy w' row) (hn : NoBytes w row) : Bt w' v bs := by
  obtain ⟨⟨A, cap, e, h1, h2, h3, h4⟩, ht⟩ := h
  subst e
  have key : ∀ b off, A = some ⟨b, off, none⟩ → 0 < bs.length → w'.heap[b]? = w.heap[b]? ∧ ∃ cur f, w.heap[b]? = some (.cells cur 5 f) := by
    intro b off e h0
    subst e
    obtain ⟨cur, f, hc⟩ := ht b off _ _ rfl h0
    refine ⟨hg.block b (lt_of_heap hc) (fun e => ?_), cur, f, hc⟩
    obtain ⟨cur', t, f', hne, hc'⟩ := hn b e.symm
    rw [hc] at hc'
    cases hc'
    exact hne rfl
  refine ⟨⟨A, cap, rfl, h1, h2, h3, fun h0 => ?_⟩, fun b off n c e h0 => ?_⟩
  · obtain ⟨b, off, e, hc⟩ := h4 h0
    refine ⟨b, off, e, fun j hj => ?_⟩
    rw [World.cell?_of_block (a := ⟨b, off + j, none⟩) (key b off e h0).1]
    exact hc j hj
  · cases e
    obtain ⟨k1, k2⟩ := key b off rfl h0
    rw [k1]
    exact k2
theorem own8_some' {w : World} {B : Nat} {v : Value} {bs : List B8} (h : Own8 w B v bs) (h0 : 0 < bs.length) : ∃ g cap, v = .slice (some ⟨g, 0, none⟩) bs.length cap := by
  rcases h.2 with ⟨rfl, hn⟩ | ⟨g, cap, cur, rfl, _⟩
  · omega
  · exact ⟨g, cap, rfl⟩
theorem Own8.bt {w : World} {B : Nat} {v : Value} {bs : List B8} (h : Own8 w B v bs) : Bt w v bs := by
  refine ⟨h.bys, fun b off n c e h0 => ?_⟩
  obtain ⟨g, cap, e'⟩ := own8_some' h h0
  rw [e] at e'
  cases e'
  obtain ⟨cur, hc⟩ := own8_type h b (by rw [e]; rfl)
  exact ⟨cur, _, hc⟩
theorem Bt.below {w w' : World} {v : Value} {bs : List B8} (h : Bt w v bs) (hb : Below w.heap.size w w') : Bt w' v bs := h.kept (grown_of_below hb) (noBytes_none w)
structure El (P : World → Value → List B8 → Prop) : Prop where
  bys : ∀ {w v bs}, P w v bs → Bys w v bs
  kept : ∀ {w w' row v bs}, P w v bs → w.grownBy w' row → NoBytes w row → P w' v bs
theorem el_own (B : Nat) : El (fun w v bs => Own8 w B v bs) := ⟨fun h => h.bys, fun h hg hn => h.keptN hg hn⟩
theorem el_bt : El Bt := ⟨fun h => h.1, fun h hg hn => h.kept hg hn⟩
theorem bys_one {w : World} {v : Value} {bs : List B8} (h : Bys w v bs) : v.oneCell' = true := by
  obtain ⟨A, c, rfl, _⟩ := h
  rfl
/-- The slice v holds rows, in a block of the call's own (from B on), or is nil; each row's bytes lie as P says. -/
def OwnRs (P : World → Value → List B8 → Prop) (w : World) (B : Nat) (v : Value) (rows : List (List B8)) : Prop :=
  ∃ qs : List (List B8 × Value), qs.map (·.1) = rows ∧ w.ownsRow B 34 1 v qs.length (qs.map (·.2)) ∧ ∀ q, q ∈ qs → P w q.2 q.1
section
variable {P : World → Value → List B8 → Prop} {w w' : World} {B : Nat} {v : Value} {rows : List (List B8)}
theorem OwnRs.nil (P : World → Value → List B8 → Prop) (w : World) (B : Nat) : OwnRs P w B (.slice none 0 0) [] := ⟨[], rfl, World.ownsRow_nil w B 34 1, fun q h => by cases h⟩
theorem OwnRs.shape (h : OwnRs P w B v rows) : ∃ A c, v = .slice A rows.length c ∧ rows.length ≤ c ∧ c ≤ 9223372036854775807 ∧ (0 < rows.length → ∃ g, A = some ⟨g, 0, none⟩ ∧ B ≤ g ∧ g < w.heap.size) := by
  obtain ⟨qs, rfl, ho, hq⟩ := h
  rcases ho.2 with ⟨rfl, hn⟩ | ⟨g, cap, cur, rfl, hb, hgg, hnc, hcm, hsz, ht⟩
  · exact ⟨none, 0, by simp [hn], by simp [hn], by omega, fun h => by simp [hn] at h⟩
  · unfold maxLen at hcm
    exact ⟨_, cap, by rw [List.length_map], by rw [List.length_map]; exact hnc, by omega, fun _ => ⟨g, rfl, hb, lt_of_heap hgg⟩⟩
theorem OwnRs.lt (h : OwnRs P w B v rows) : ∀ k, v.ownBlock = some k → B ≤ k ∧ k < w.heap.size := by
  obtain ⟨qs, rfl, ho, hq⟩ := h
  exact World.ownsRow.lt ho
theorem OwnRs.type (h : OwnRs P w B v rows) : ∀ b, v.ownBlock = some b → B ≤ b ∧ ∃ c, w.heap[b]? = some (.cells c 34 (0, 0)) := by
  intro b hb
  refine ⟨(h.lt b hb).1, ?_⟩
  obtain ⟨qs, rfl, ho, hq⟩ := h
  exact row_type ho b hb
theorem OwnRs.noBytes (h : OwnRs P w B v rows) : NoBytes w v.ownBlock := by
  intro b hb
  obtain ⟨_, cur, hc⟩ := h.type b hb
  exact ⟨cur, 34, (0, 0), by decide, hc⟩
theorem OwnRs.kept (hE : El P) (h : OwnRs P w B v rows) {row : Option Nat} (hg : w.grownBy w' row) (hn : NoBytes w row) (hne : v.ownBlock = none ∨ v.ownBlock ≠ row) : OwnRs P w' B v rows := by
  obtain ⟨qs, rfl, ho, hq⟩ := h
  exact ⟨qs, rfl, ho.kept hg hne, fun q hm => hE.kept (hq q hm) hg hn⟩
theorem OwnRs.below (hE : El P) (h : OwnRs P w B v rows) (hb : Below w.heap.size w w') : OwnRs P w' B v rows := h.kept hE (grown_of_below hb) (noBytes_none w) own_ne_none
theorem OwnRs.base (h : OwnRs P w B v rows) {B' : Nat} (hB : B' ≤ B) : OwnRs P w B' v rows := by
  obtain ⟨qs, rfl, ho, hq⟩ := h
  refine ⟨qs, rfl, ⟨ho.1, ?_⟩, hq⟩
  rcases ho.2 with hn | ⟨g, cap, cur, rfl, hb, rest⟩
  · exact .inl hn
  · exact .inr ⟨g, cap, cur, rfl, Nat.le_trans hB hb, rest⟩
theorem OwnRs.imp {Q : World → Value → List B8 → Prop} (h : OwnRs P w B v rows) (hi : ∀ v bs, P w v bs → Q w v bs) : OwnRs Q w B v rows := by
  obtain ⟨qs, rfl, ho, hq⟩ := h
  exact ⟨qs, rfl, ho, fun q hm => hi _ _ (hq q hm)⟩
theorem OwnRs.rws (hE : El P) (h : OwnRs P w B v rows) : RwsA w v rows := by
  obtain ⟨qs, rfl, ho, hq⟩ := h
  rcases ho.2 with ⟨rfl, hn⟩ | ⟨g, cap, cur, rfl, hb, hgg, hnc, hcm, hsz, ht⟩
  · exact ⟨none, 0, by simp [hn], by simp [hn], by simp [maxLen], fun h => by simp [hn] at h⟩
  · refine ⟨some ⟨g, 0, none⟩, cap, by rw [List.length_map], by rw [List.length_map]; exact hnc, hcm, fun _ => ⟨g, 0, rfl, fun j hj => ?_⟩⟩
    rw [List.length_map] at hj
    have hc := World.ownsRow.cells ho rfl j qs[j].2 (by simp [hj])
    rw [add_plain] at hc
    rw [Nat.zero_add]
    refine ⟨_, hc, ?_⟩
    have : rowAt (qs.map (·.1)) j = qs[j].1 := by simp [rowAt, List.getD_eq_getElem?_getD, hj]
    rw [this]
    exact hE.bys (hq _ (List.getElem_mem hj))
end
theorem step_appR {P : World → Value → List B8 → Prop} (hE : El P) {w : World} {ops : Array Oper} {o : Oper} {a : Act} {K : Act → World → Prop} {Q : Exit → Act → World → Prop} {E : Prop} (hgd : o.guard = none) (s x : Operand)
    (ho : o.op = .call { callee := .builtin .append, args := #[s, x], argTypes := #[63, 63] }) (B : Nat) (v : Value) (rows : List (List B8)) (hs : a.eval s = v) (hown : OwnRs P w B v rows)
    (ad : Nat) (bs : List B8) (bv : Value) (T : TypeId) (fr : Nat × Nat) (hx : a.eval x = .slice (some ⟨ad, 0, none⟩) 1 1) (hc : w.heap[ad]? = some (.cells #[bv] T fr)) (hbv : P w bv bs)
    (hlen : rows.length ≤ 1000000) (hbase : B ≤ w.heap.size) (H : Nat) (hH : w.heap.size = H)
    (h : ∀ g cap w', OwnRs P w' B (.slice (some ⟨g, 0, none⟩) (rows.length + 1) cap) (rows ++ [bs]) → w.grownBy w' v.ownBlock → NoBytes w v.ownBlock → (v.ownBlock = some g ∨ g = H) → g < w'.heap.size → K (a.put o.dst (.slice (some ⟨g, 0, none⟩) (rows.length + 1) cap)) w') :
    if Region.wanted o (yielded ops a.tmps) = true then Oper.wp Try.prog o a w K Q else E := by
  have hnb := hown.noBytes
  obtain ⟨qs, rfl, hrow, hq⟩ := hown
  rw [List.length_map] at h hlen
  obtain ⟨i0, hi, hz0, hz1, hz2⟩ := info_parts Try.info34
  refine step_append_lies (P := Try.prog) w hgd s x 63 ho B 34 i0 _ 1 24 Try.underlying63 hi hz0 hz1 hz2 rfl (by decide) v qs.length (qs.map (·.2)) hs hrow ⟨ad, 0, none⟩ 1 1 [bv] hx rfl ?_ ?_ (by decide) (by unfold maxLen; omega) (by omega) hbase H hH ?_
  · intro j u hu
    exact World.news_of_block hc j u hu
  · intro u hu
    simp only [List.mem_cons, List.not_mem_nil, or_false] at hu
    subst hu
    exact bys_one (hE.bys hbv)
  · intro g cap w' h1 h2 h3 h4
    refine h g cap w' ⟨qs ++ [(bs, bv)], by simp, ?_, fun q hqm => ?_⟩ h2 hnb h3 h4
    · rw [List.map_append, List.length_append]
      exact h1
    · rcases List.mem_append.1 hqm with hqm | hqm
      · exact hE.kept (hq q hqm) h2 hnb
      · simp only [List.mem_singleton] at hqm
        subst hqm
        exact hE.kept hbv h2 hnb
theorem wpList_appR {P : World → Value → List B8 → Prop} (hE : El P) {w : World} {ops : Array Oper} {rest : List Oper} {o : Oper} {a : Act} {Q : Exit → Act → World → Prop} (hgd : o.guard = none) (s x : Operand)
    (ho : o.op = .call { callee := .builtin .append, args := #[s, x], argTypes := #[63, 63] }) (B : Nat) (v : Value) (rows : List (List B8)) (hs : a.eval s = v) (hown : OwnRs P w B v rows)
    (ad : Nat) (bs : List B8) (bv : Value) (T : TypeId) (fr : Nat × Nat) (hx : a.eval x = .slice (some ⟨ad, 0, none⟩) 1 1) (hc : w.heap[ad]? = some (.cells #[bv] T fr)) (hbv : P w bv bs)
    (hlen : rows.length ≤ 1000000) (hbase : B ≤ w.heap.size)
    (h : ∀ g cap w', OwnRs P w' B (.slice (some ⟨g, 0, none⟩) (rows.length + 1) cap) (rows ++ [bs]) → w.grownBy w' v.ownBlock → g < w'.heap.size → wpList Try.prog ops Q rest (a.put o.dst (.slice (some ⟨g, 0, none⟩) (rows.length + 1) cap)) w') :
    wpList Try.prog ops Q (o :: rest) a w := by
  have hnb := hown.noBytes
  obtain ⟨qs, rfl, hrow, hq⟩ := hown
  rw [List.length_map] at h hlen
  obtain ⟨i0, hi, hz0, hz1, hz2⟩ := info_parts Try.info34
  refine wpList_append_lies (P := Try.prog) w hgd s x 63 ho B 34 i0 _ 1 24 Try.underlying63 hi hz0 hz1 hz2 rfl (by decide) v qs.length (qs.map (·.2)) hs hrow ⟨ad, 0, none⟩ 1 1 [bv] hx rfl ?_ ?_ (by decide) (by unfold maxLen; omega) (by omega) hbase w.heap.size rfl ?_
  · intro j u hu
    exact World.news_of_block hc j u hu
  · intro u hu
    simp only [List.mem_cons, List.not_mem_nil, or_false] at hu
    subst hu
    exact bys_one (hE.bys hbv)
  · intro g cap w' h1 h2 h3 h4
    refine h g cap w' ⟨qs ++ [(bs, bv)], by simp, ?_, fun q hqm => ?_⟩ h2 h4
    · rw [List.map_append, List.length_append]
      exact h1
    · rcases List.mem_append.1 hqm with hqm | hqm
      · exact hE.kept (hq q hqm) h2 hnb
      · simp only [List.mem_singleton] at hqm
        subst hqm
        exact hE.kept hbv h2 hnb
end Go.Proofs.Ytnhmhnejglpijaa
