/- journal: records laid and joined: walks. -/
import Derived.Test.YtnhmhnejglpijaaQe
import Derived.Test.YtnhmhnejglpijaaQd
namespace Go.Proofs.Ytnhmhnejglpijaa
open Go.RowKit
set_option maxRecDepth 100000
set_option linter.unusedSimpArgs false
set_option linter.unusedVariables false
/-- bytes of the call's own, or an error by which it leaves -/
def Out8 (w : World) (r : Out (List B8)) (e : Ending) (w' : World) : Prop :=
  Below w.heap.size w w' ∧ match r with
  | .ok x => ∃ v, e = .returned v ∧ Own8 w' w.heap.size v x
  | .error n => e = errP n
theorem tries76_out (g : Nat) (cap : Array Value) (r : Out (List B8)) (w : World) (hinv : ∀ args w, (callFunc g args).run Try.prog w = .ok (.enter g args) w)
    (h : ∀ X, X = (w.alloc (.cells #[.slice none 0 0] 34)).alloc (.cells #[.int .i64 0] 28) → Calls Try.prog g cap X (Out8 X r)) :
    Calls Try.prog 76 #[.func (.func g) #[] cap] w fun e w' => Below w.heap.size w w' ∧ ∃ v, e = .returned (.tuple #[v, .int .i64 r.err]) ∧ Own8 w' w.heap.size v (r.get []) := by
  refine tries76_calls g cap r w hinv ?_
  have h2 := h _ rfl
  unfold Out8 at h2
  have hz : ((w.alloc (.cells #[.slice none 0 0] 34)).alloc (.cells #[.int .i64 0] 28)).heap.size = w.heap.size + 1 + 1 := by simp
  rw [hz] at h2
  exact h2
def recO (bs : List B8) : Out (List B8) := if bs.length ≤ 65536 then .ok (recW bs) else .error 3
theorem bys_nil (w : World) : Bys w (.slice none 0 0) [] := (Own8.nil w 0).bys
set_option maxHeartbeats 1000000 in
theorem record_ok (v : Value) (bs : List B8) (w : World) (hb : Bys w v bs) (hl : bs.length ≤ 65536) :
    Calls Try.prog 79 #[v] w fun e w' => ∃ v', e = .returned v' ∧ Own8 w' w.heap.size v' (recW bs) ∧ Below w.heap.size w w' := by
  obtain ⟨A, cap, rfl, _⟩ := id hb
  have HB := Lib.hid hb
  clear hb
  have hcv : IntKind.u64.wrap (bs.length : Int) = (bs.length : Int) := by rw [IntKind.wrap_u64]; omega
  have hd : decide ((bs.length : Int) ≤ 65536) = true := decide_eq_true (by omega)
  have hd2 : decide (bs.length ≤ 65536) = true := decide_eq_true (by omega)
  have HL : Hid ((layW 4 bs.length).length + bs.length ≤ 140737488355328) := Lib.hid (by rw [layW_length]; omega)
  have HL2 : Hid ((layW 4 bs.length ++ bs).length ≤ 1099511627776) := Lib.hid (by rw [List.length_append, layW_length]; omega)
  have HP : Hid (∀ w, Calls Try.prog 111 #[.slice none 0 0, .int .i64 4, .int .u64 bs.length] w fun e w' => ∃ v', e = .returned (.tuple #[v', .int .i64 0]) ∧ Own8 w' w.heap.size v' (layW 4 bs.length) ∧ Below w.heap.size w w') := Lib.hid (fun w => put_calls _ [] 4 bs.length w (bys_nil w) (by decide) (by decide) (by omega) (by show bs.length < 2 ^ 32; omega) (by simp))
  go_enter Try.func79, Try.ntmps79
  go_wp2_with (first
    | (go_at_call 84; (with_reducible refine (need84_ok _ _).mono ?_); rintro e w' ⟨rfl, rfl⟩)
    | (go_at_call 111; (with_reducible refine (HP.out _).mono ?_); rintro e w1 ⟨v1, rfl, ho1, hb1⟩)
    | (at_builtin; refine wpList_app8 rfl (.tmp 20) (.tmp 21) rfl w.heap.size _ _ (layW 4 bs.length) bs rfl ho1 rfl (HB.out.below hb1) HL.out hb1.size ?_; intro v2 w2 h2 hg2 _; (have hb2 : Below w.heap.size w w2 := hb1.grown hg2 hb1.size (fun k e => (ho1.lt k e).1)); (clear hg2))
    | (go_at_call 55; (with_reducible refine (seal_calls _ (layW 4 bs.length ++ bs) _ h2.bys HL2.out).mono ?_); rintro e w3 ⟨v3, rfl, ho3, hb3⟩))
  go_ret
  exact ⟨_, rfl, ho3.base hb2.size, below_tr hb2 hb3⟩
theorem record_no (v : Value) (bs : List B8) (w : World) (hb : Bys w v bs) (hl : ¬ bs.length ≤ 65536) :
    Calls Try.prog 79 #[v] w fun e w' => e = errP 3 ∧ Below w.heap.size w w' := by
  obtain ⟨A, cap, rfl, _⟩ := id hb
  clear hb
  have hd : decide ((bs.length : Int) ≤ 65536) = false := decide_eq_false (by omega)
  have hd2 : decide (bs.length ≤ 65536) = false := decide_eq_false (by omega)
  go_enter Try.func79, Try.ntmps79
  go_wp2_with (go_at_call 84; (with_reducible refine (need84_no _ _).mono ?_); rintro e w' ⟨rfl, rfl⟩)
  exact ⟨rfl, rfl, Below.refl _ _⟩
theorem record_out (v : Value) (bs : List B8) (w : World) (hb : Bys w v bs) : Calls Try.prog 79 #[v] w (Out8 w (recO bs)) := by
  by_cases hl : bs.length ≤ 65536
  · rw [recO, if_pos hl]
    exact (record_ok v bs w hb hl).mono fun e w' ⟨v', he, ho, hb⟩ => ⟨hb, v', he, ho⟩
  · rw [recO, if_neg hl]
    exact (record_no v bs w hb hl).mono fun e w' ⟨he, hb⟩ => ⟨hb, he⟩
def joinW (rows : List (List B8)) : List B8 := (rows.map recW).flatten
def okRows (rows : List (List B8)) : Bool := rows.all fun r => decide (r.length ≤ 65536)
def joinO (rows : List (List B8)) : Out (List B8) := if okRows rows = true then .ok (joinW rows) else .error 3
theorem joinW_snoc (rows : List (List B8)) (k : Nat) (hk : k < rows.length) : joinW (rows.take (k + 1)) = joinW (rows.take k) ++ recW (rowAt rows k) := by
  rw [← rowAt_snoc rows k hk]
  simp [joinW]
theorem rowAt_mem {rows : List (List B8)} {k : Nat} (hk : k < rows.length) : rowAt rows k ∈ rows := by
  simp only [rowAt, List.getD_eq_getElem?_getD, List.getElem?_eq_getElem hk, Option.getD_some]
  exact List.getElem_mem hk
theorem joinW_len (rows : List (List B8)) (h : ∀ r, r ∈ rows → r.length ≤ 65536) : (joinW rows).length ≤ 65544 * rows.length := by
  induction rows with
  | nil => simp [joinW]
  | cons r l ih =>
    have h1 := h r (by simp)
    have h2 := ih fun x hx => h x (by simp [hx])
    have h3 : joinW (r :: l) = recW r ++ joinW l := by simp [joinW]
    rw [h3, List.length_append, recW_length, List.length_cons]
    omega
theorem okRows_no {rows : List (List B8)} {k : Nat} (hk : k < rows.length) (h : ¬ (rowAt rows k).length ≤ 65536) : joinO rows = .error 3 := by
  rw [joinO, if_neg]
  intro e
  rw [okRows, List.all_eq_true] at e
  exact h (by simpa using e _ (rowAt_mem hk))
theorem okRows_yes {rows : List (List B8)} (h : ∀ j, j < rows.length → (rowAt rows j).length ≤ 65536) : joinO rows = .ok (joinW rows) := by
  rw [joinO, if_pos]
  rw [okRows, List.all_eq_true]
  intro r hr
  obtain ⟨j, hj, rfl⟩ := List.getElem_of_mem hr
  have := h j hj
  simpa [rowAt, List.getD_eq_getElem?_getD, hj] using this
theorem e79 (args : Array Value) (w : World) : (callFunc 79 args).run Try.prog w = .ok (.enter 79 args) w := enters_of Try.func79 (by kernel_rfl) rfl args w
theorem e77 (args : Array Value) (w : World) : (callFunc 77 args).run Try.prog w = .ok (.enter 77 args) w := enters_of Try.func77 (by kernel_rfl) rfl args w
theorem e80 (args : Array Value) (w : World) : (callFunc 80 args).run Try.prog w = .ok (.enter 80 args) w := enters_of Try.func80 (by kernel_rfl) rfl args w
/-- what the loop of joined keeps -/
structure JnR (w : World) (rows : List (List B8)) (k : Nat) (s : Value) (wr : World) : Prop where
  below : Below w.heap.size w wr
  own : Own8 wr w.heap.size s (joinW (rows.take k))
  ok : ∀ j, j < k → (rowAt rows j).length ≤ 65536
theorem JnR.len {w : World} {rows : List (List B8)} {k : Nat} {s : Value} {wr : World} (h : JnR w rows k s wr) (hk : k ≤ rows.length) (hn : rows.length ≤ 1000) : (joinW (rows.take k)).length ≤ 65544000 := by
  have := joinW_len (rows.take k) fun r hr => by
    obtain ⟨j, hj, rfl⟩ := List.getElem_of_mem hr
    rw [List.length_take] at hj
    have := h.ok j (by omega)
    simpa [rowAt, List.getD_eq_getElem?_getD, show j < rows.length from by omega] using this
  rw [List.length_take] at this
  omega
theorem JnR.step {w : World} {rows : List (List B8)} {k : Nat} {s s' : Value} {wr w1 w2 : World} (h : JnR w rows k s wr) (hk : k < rows.length) (hl : (rowAt rows k).length ≤ 65536) (hb1 : Below wr.heap.size wr w1)
    (h2 : Own8 w2 w.heap.size s' (joinW (rows.take k) ++ recW (rowAt rows k))) (hg : w1.grownBy w2 s.ownBlock) : JnR w rows (k + 1) s' w2 := by
  refine ⟨(below_tr h.below hb1).grown hg (below_tr h.below hb1).size (fun b e => (h.own.lt b e).1), by rw [joinW_snoc rows k hk]; exact h2, fun j hj => ?_⟩
  by_cases e : j = k
  · subst e; exact hl
  · exact h.ok j (by omega)
set_option maxHeartbeats 2000000 in
theorem joined_calls (v : Value) (rows : List (List B8)) (w : World) (hv : RwsA w v rows) (hn : rows.length ≤ 1000) :
    Calls Try.prog 78 #[v, .func (.func 79) #[] #[]] w (Out8 w (joinO rows)) := by
  obtain ⟨A, cap, rfl, h1, h2, h3⟩ := hv
  unfold maxLen at h2
  have HC := Lib.hid h3
  have HN := Lib.hid hn
  clear h3 hn
  go_enter Try.func78, Try.ntmps78
  go_wp2
  go_loopw [5, 10] (fun s5 i wr => ∃ k : Nat, k ≤ rows.length ∧ i = .int .i64 k ∧ Hid (JnR w rows k s5 wr)) (fun _ i _ => rows.length - (intOf i).toNat)
  case atStart => exact ⟨0, Nat.zero_le _, rfl, Lib.hid ⟨Below.refl _ w, Own8.nil _ _, fun j hj => absurd hj (Nat.not_lt_zero _)⟩⟩
  case round =>
    obtain ⟨k, hk, rfl, HR⟩ := hrel
    by_cases hlt : k < rows.length
    · have hd : decide (k < rows.length) = true := by simpa using hlt
      obtain ⟨b, off, rfl, hcell⟩ := HC.out (by omega)
      obtain ⟨sv, k1, k4⟩ := hcell k hlt
      have hbw := HR.out.below
      have d1 := (hbw.cell (p := ⟨b, off + k, none⟩) (World.block_lt_of_cell? w _ k1)).trans k1
      have HY := Lib.hid (k4.below hbw)
      obtain ⟨A', c', rfl, _⟩ := k4
      have i0 : (0 : Int) ≤ (k : Int) := by omega
      have i1 : (k : Int) < (rows.length : Int) := by omega
      clear hcell k1 hbw
      by_cases hl : (rowAt rows k).length ≤ 65536
      · have HL := Lib.hid hl
        have HLEN : Hid ((joinW (rows.take k)).length + (recW (rowAt rows k)).length ≤ 140737488355328) := Lib.hid (by have := HR.out.len hk HN.out; rw [recW_length]; omega)
        have hcall := record_ok _ (rowAt rows k) wr HY.out hl
        clear hl
        go_wp2_with (first
          | (go_at_call 79; refine hcall.mono ?_; rintro e w1 ⟨v1, rfl, ho1, hb1⟩)
          | (at_builtin; refine wpList_app8 rfl (.tmp 14) (.tmp 17) rfl w.heap.size _ _ (joinW (rows.take k)) (recW (rowAt rows k)) rfl (HR.out.own.below hb1) rfl ho1.bys HLEN.out (Nat.le_trans HR.out.below.size hb1.size) ?_; intro v2 w2 hh2 hg2 _))
        have HR2 := Lib.hid (HR.out.step hlt HL.out hb1 hh2 hg2)
        clear hh2 hg2 ho1 hb1
        go_wp2
        go_roundw
        case rel => exact ⟨k + 1, by omega, by go_num, HR2⟩
        case measure => simp [intOf]; omega
      · have hcall := record_no _ (rowAt rows k) wr HY.out hl
        rw [okRows_no hlt hl]
        clear hl
        go_wp2_with (go_at_call 79; refine hcall.mono ?_; rintro e w1 ⟨rfl, hb1⟩)
        exact ⟨rfl, below_tr HR.out.below hb1, rfl⟩
    · have hd : decide (k < rows.length) = false := by simpa using hlt
      have hk : k = rows.length := by omega
      have HJ : Hid (joinO rows = .ok (joinW rows)) := Lib.hid (okRows_yes fun j hj => HR.out.ok j (by omega))
      have HE : Hid (rows.take k = rows) := Lib.hid (by rw [hk, List.take_length])
      clear hk
      go_wp2
      go_ret
      refine ⟨HR.out.below, ?_⟩
      rw [HJ.out]
      exact ⟨_, rfl, by have := HR.out.own; rwa [HE.out] at this⟩
theorem join1_calls (a0 : Nat) (v : Value) (rows : List (List B8)) (W : World) (c0 : W.cell? ⟨a0, 0, none⟩ = some v) (hv : RwsA W v rows) (hn : rows.length ≤ 1000) :
    Calls Try.prog 77 #[.pointer (some ⟨a0, 0, none⟩)] W (Out8 W (joinO rows)) := by
  have hcall := joined_calls v rows W hv hn
  obtain ⟨A, cap, rfl, _⟩ := id hv
  clear hv
  cases hj : joinO rows with
  | ok x =>
    rw [hj] at hcall
    clear hj
    go_enter Try.func77, Try.ntmps77
    go_wp2_with (go_at_call 78; refine hcall.mono ?_; rintro e w1 ⟨hb1, v1, rfl, ho1⟩)
    go_ret
    exact ⟨hb1, _, rfl, ho1⟩
  | error n =>
    rw [hj] at hcall
    clear hj
    go_enter Try.func77, Try.ntmps77
    go_wp2_with (go_at_call 78; refine hcall.mono ?_; rintro e w1 ⟨hb1, rfl⟩)
    exact ⟨rfl, hb1, rfl⟩
theorem join_calls (v : Value) (rows : List (List B8)) (w : World) (hv : RwsA w v rows) (hn : rows.length ≤ 1000) :
    Calls Try.prog 38 #[v] w fun e w' => ∃ v', e = .returned (.tuple #[v', .int .i64 (joinO rows).err]) ∧ Own8 w' w.heap.size v' ((joinO rows).get []) ∧ Below w.heap.size w w' := by
  obtain ⟨A, cap, rfl, _⟩ := id hv
  have hmf : ∀ (fn : Fn) (first cap : Array Value) (w : World), (Instr.makeFunc fn first cap).run Try.prog w = .ok (.func fn first cap) w := fun _ _ _ _ => rfl
  have HB := Lib.hid (below_al (Below.refl _ w) (.cells #[.slice A rows.length cap] 63))
  have HP : Hid (∀ X, X = ((w.alloc (.cells #[.slice A rows.length cap] 63)).alloc (.cells #[.slice none 0 0] 34)).alloc (.cells #[.int .i64 0] 28) → Calls Try.prog 77 #[.pointer (some ⟨w.heap.size, 0, none⟩)] X (Out8 X (joinO rows))) := Lib.hid (by
    rintro X rfl
    exact join1_calls _ _ rows _ (cell_of_heap (new_next _ _ (new_next _ _ (new_here w _)))) (hv.below (below_al (below_al HB.out _) _)) hn)
  clear hv hn
  go_enter Try.func38, Try.ntmps38
  go_wp2_with (go_at_call 76; refine (tries76_out 77 _ (joinO rows) _ e77 HP.out).mono ?_; rintro e w' ⟨hb, v', rfl, ho⟩)
  go_ret2
  exact ⟨_, rfl, ho.base HB.out.size, below_tr HB.out hb⟩
theorem rec1_calls (a0 : Nat) (v : Value) (bs : List B8) (W : World) (c0 : W.cell? ⟨a0, 0, none⟩ = some v) (hv : Bys W v bs) :
    Calls Try.prog 80 #[.pointer (some ⟨a0, 0, none⟩)] W (Out8 W (recO bs)) := by
  have hcall := record_out v bs W hv
  obtain ⟨A, cap, rfl, _⟩ := id hv
  clear hv
  cases hj : recO bs with
  | ok x =>
    rw [hj] at hcall
    clear hj
    go_enter Try.func80, Try.ntmps80
    go_wp2_with (go_at_call 79; refine hcall.mono ?_; rintro e w1 ⟨hb1, v1, rfl, ho1⟩)
    go_ret
    exact ⟨hb1, _, rfl, ho1⟩
  | error n =>
    rw [hj] at hcall
    clear hj
    go_enter Try.func80, Try.ntmps80
    go_wp2_with (go_at_call 79; refine hcall.mono ?_; rintro e w1 ⟨hb1, rfl⟩)
    exact ⟨rfl, hb1, rfl⟩
theorem record_calls (v : Value) (bs : List B8) (w : World) (hv : Bys w v bs) :
    Calls Try.prog 40 #[v] w fun e w' => ∃ v', e = .returned (.tuple #[v', .int .i64 (recO bs).err]) ∧ Own8 w' w.heap.size v' ((recO bs).get []) ∧ Below w.heap.size w w' := by
  obtain ⟨A, cap, rfl, _⟩ := id hv
  have hmf : ∀ (fn : Fn) (first cap : Array Value) (w : World), (Instr.makeFunc fn first cap).run Try.prog w = .ok (.func fn first cap) w := fun _ _ _ _ => rfl
  have HB := Lib.hid (below_al (Below.refl _ w) (.cells #[.slice A bs.length cap] 34))
  have HP : Hid (∀ X, X = ((w.alloc (.cells #[.slice A bs.length cap] 34)).alloc (.cells #[.slice none 0 0] 34)).alloc (.cells #[.int .i64 0] 28) → Calls Try.prog 80 #[.pointer (some ⟨w.heap.size, 0, none⟩)] X (Out8 X (recO bs))) := Lib.hid (by
    rintro X rfl
    exact rec1_calls _ _ bs _ (cell_of_heap (new_next _ _ (new_next _ _ (new_here w _)))) (hv.below (below_al (below_al HB.out _) _)))
  clear hv
  go_enter Try.func40, Try.ntmps40
  go_wp2_with (go_at_call 76; refine (tries76_out 80 _ (recO bs) _ e80 HP.out).mono ?_; rintro e w' ⟨hb, v', rfl, ho⟩)
  go_ret2
  exact ⟨_, rfl, ho.base HB.out.size, below_tr HB.out hb⟩
end Go.Proofs.Ytnhmhnejglpijaa
