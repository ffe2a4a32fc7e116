/- journal: the iterator over records: the walk. -/
import Derived.Test.YtnhmhnejglpijaaQo
import Derived.Test.YtnhmhnejglpijaaQl
namespace Go.Proofs.Ytnhmhnejglpijaa
open Go.RowKit Go.Shelf
attribute [local go_sem] Oper.semAt_some
set_option maxRecDepth 100000
set_option linter.unusedSimpArgs false
set_option linter.unusedVariables false
/-- a record that is told: where it begins, what it holds, and where that lies -/
structure Rc where
  pos : Nat
  held : List B8
  addr : Option Addr
  cap : Nat
def Rc.vals (x : Rc) : Array Value := #[.int .i64 (x.pos : Int), .agg #[.slice x.addr x.held.length x.cap, .int .i64 ((x.held.length : Int) + 8)]]
def Rc.pair (x : Rc) : Nat × List B8 := (x.pos, x.held)
def RcOk (bs : List B8) (pre : List Rc) (x : Rc) (W : World) : Prop := Bt W (.slice x.addr x.held.length x.cap) x.held ∧ x.pos + (x.held.length + 8) ≤ bs.length ∧ ScanR bs ((pre ++ [x]).map Rc.pair) (x.pos + (x.held.length + 8))
/-- what a round keeps: blocks of bytes and scanners -/
def RcKp (W W' : World) : Prop := W.heap.size ≤ W'.heap.size ∧ ∀ (b : Nat) (c : Array Value) (t : TypeId) (f : Nat × Nat), W.heap[b]? = some (.cells c t f) → (t = 5 ∨ t = 150) → W'.heap[b]? = some (.cells c t f)
theorem RcKp.trans {A B C : World} (h : RcKp A B) (k : RcKp B C) : RcKp A C := ⟨Nat.le_trans h.1 k.1, fun b c t f hb ht => k.2 b c t f (h.2 b c t f hb ht) ht⟩
theorem RcKp.put (W : World) (l : Nat) (o o' : Obj) (hl : W.heap[l]? = some o) (ho : o.isCells = false) : RcKp W (W.putObj l o') :=
  ⟨(grownBy_putObj' W l o').size, fun b c t f hb ht => ((grownBy_putObj' W l o').block b (lt_of_heap hb) (fun e => by
    cases e
    rw [hl] at hb
    cases hb
    cases ho)).trans hb⟩
theorem Bt.put {W : World} {v : Value} {bs : List B8} (h : Bt W v bs) (l : Nat) (o o' : Obj) (hl : W.heap[l]? = some o) (ho : o.isCells = false) : Bt (W.putObj l o') v bs := by
  obtain ⟨⟨A, cap, e, h1, h2, h3, h4⟩, ht⟩ := h
  subst e
  have key : ∀ b off, A = some ⟨b, off, none⟩ → 0 < bs.length → (W.putObj l o').heap[b]? = W.heap[b]? ∧ ∃ cur f, W.heap[b]? = some (.cells cur 5 f) := by
    intro b off e h0
    subst e
    obtain ⟨cur, f, hc⟩ := ht b off _ _ rfl h0
    refine ⟨(grownBy_putObj' W l o').block b (lt_of_heap hc) (fun e => ?_), cur, f, hc⟩
    cases e
    rw [hl] at hc
    cases hc
    cases ho
  refine ⟨⟨A, cap, rfl, h1, h2, h3, fun h0 => ?_⟩, fun b off n c e h0 => ?_⟩
  · obtain ⟨b, off, e, hc⟩ := h4 h0
    refine ⟨b, off, e, fun j hj => ?_⟩
    rw [World.cell?_of_block (a := ⟨b, off + j, none⟩) (key b off e h0).1]
    exact hc j hj
  · cases e
    obtain ⟨k1, k2⟩ := key b off rfl h0
    rw [k1]
    exact k2
theorem Bt.keptK {W W' : World} {v : Value} {bs : List B8} (h : Bt W v bs) (hk : RcKp W W') : Bt W' v bs := by
  obtain ⟨⟨A, cap, e, h1, h2, h3, h4⟩, ht⟩ := h
  subst e
  have key : ∀ b off, A = some ⟨b, off, none⟩ → 0 < bs.length → ∃ cur f, W.heap[b]? = some (.cells cur 5 f) ∧ W'.heap[b]? = some (.cells cur 5 f) := by
    intro b off e h0
    subst e
    obtain ⟨cur, f, hc⟩ := ht b off _ _ rfl h0
    exact ⟨cur, f, hc, hk.2 b cur 5 f hc (.inl rfl)⟩
  refine ⟨⟨A, cap, rfl, h1, h2, h3, fun h0 => ?_⟩, fun b off n c e h0 => ?_⟩
  · obtain ⟨b, off, e, hc⟩ := h4 h0
    obtain ⟨cur, f, k1, k2⟩ := key b off e h0
    refine ⟨b, off, e, fun j hj => ?_⟩
    rw [World.cell?_of_block (a := ⟨b, off + j, none⟩) (k2.trans k1.symm)]
    exact hc j hj
  · cases e
    obtain ⟨cur, f, k1, k2⟩ := key b off rfl h0
    exact ⟨cur, f, k2⟩
/-- what the iterator keeps between two rounds -/
structure RecJ (bs : List B8) (sB : Nat) (J : List Rc → World → Prop) (pre : List Rc) (k : Nat) (A : Option Addr) (c : Nat) (W : World) : Prop where
  j : J pre W
  box : W.heap[sB]? = some (.cells #[.slice A (bs.length - k) c, .int .i64 (k : Int)] 150 (0, 0))
  rest : Bt W (.slice A (bs.length - k) c) (bs.drop k)
  inv : ScanR bs (pre.map Rc.pair) k
/-- where the scanner stands -/
def scanAt (sB : Nat) (W : World) : Nat := match W.heap[sB]? with
  | some (.cells c _ _) => (intOf (c.getD 1 undef)).toNat
  | _ => 0
theorem scanAt_box {sB k : Nat} {v : Value} {W : World} (h : W.heap[sB]? = some (.cells #[v, .int .i64 (k : Int)] 150 (0, 0))) : scanAt sB W = k := by
  unfold scanAt
  rw [h]
  simp [intOf]
def NextR (X : World) (sB : Nat) (bs : List B8) (k : Nat) (r : Out (List B8)) (e : Ending) (X' : World) : Prop :=
  match r with
  | .ok h => ∃ A1 c1 A2 c2, e = .returned (.tuple #[.agg #[.slice A1 h.length c1, .int .i64 ((h.length : Int) + 8)], .bool true]) ∧ Bt X' (.slice A1 h.length c1) h ∧
      X'.heap[sB]? = some (.cells #[.slice A2 (bs.length - (k + (h.length + 8))) c2, .int .i64 ((k + (h.length + 8) : Nat) : Int)] 150 (0, 0)) ∧ Bt X' (.slice A2 (bs.length - (k + (h.length + 8))) c2) (bs.drop (k + (h.length + 8))) ∧ X.grownBy X' (some sB)
  | .error _ => e = .returned (.tuple #[.agg #[.slice none 0 0, .int .i64 0], .bool false]) ∧ Below X.heap.size X X'
theorem next_rec (sB k : Nat) (A : Option Addr) (c : Nat) (bs : List B8) (X : World) (hbox : X.heap[sB]? = some (.cells #[.slice A (bs.length - k) c, .int .i64 (k : Int)] 150 (0, 0))) (hrest : Bt X (.slice A (bs.length - k) c) (bs.drop k)) (hk : k ≤ bs.length) (hl : bs.length ≤ 1000000) :
    Calls Try.prog 115 #[.pointer (some ⟨sB, 0, none⟩)] X (NextR X sB bs k (firstW (bs.drop k))) := by
  have hd : (bs.drop k).length = bs.length - k := List.length_drop
  have h := next_calls sB k A c (bs.drop k) X (by rw [hd]; exact hbox) (by rw [hd]; exact hrest) (by omega) (by omega)
  refine h.mono ?_
  cases hf : firstW (bs.drop k) with
  | error n => exact fun e X' h => h
  | ok x =>
    rintro e X' ⟨A1, c1, A2, c2, h1, h2, h3, h4, h5⟩
    refine ⟨A1, c1, A2, c2, h1, h2, ?_, ?_, h5⟩
    · rw [hd, Nat.sub_sub] at h3
      rw [h3]
      congr 4
    · rw [hd, Nat.sub_sub, List.drop_drop] at h4
      exact h4
set_option maxHeartbeats 4000000 in
theorem rec1_in (n : Nat) (hn : 1 ≤ n) (l Bs : Nat) (A : Option Addr) (cap : Nat) (bs : List B8) (hl : bs.length ≤ 1000000) (J : List Rc → World → Prop) (D : Nat) (hJ : Abide 150 D J)
    (hY : ∀ pre x W1, J pre W1 → RcOk bs pre x W1 → YieldAt Fence.wide (n - 1) Try.prog l x.vals W1 fun e W' => e = .returned (.bool true) ∧ J (pre ++ [x]) W' ∧ RcKp W1 W')
    (W : World) (hD : D ≤ W.heap.size) (hBs : W.heap[Bs]? = some (.cells #[.slice A bs.length cap] 34 (0, 0))) (hb : Bt W (.slice A bs.length cap) bs) (h0 : J [] W) :
    CallsIn Fence.wide n Try.prog 114 #[.func (.yield l) #[] #[], .pointer (some ⟨Bs, 0, none⟩)] W fun e W' => (∃ v, e = .returned v) ∧ ∃ xs : List Rc, xs.map Rc.pair = recAt bs 0 ∧ J xs W' := by
  have hmf : ∀ (fn : Fn) (first cap : Array Value) (w : World), (Instr.makeFunc fn first cap).run Try.prog w = .ok (.func fn first cap) w := fun _ _ _ _ => rfl
  have q1 : W.cell? ⟨Bs, 0, none⟩ = some (.slice A bs.length cap) := cell_of_heap hBs
  have HY := Lib.hid hY
  have HJ := Lib.hid hJ
  have HB := Lib.hid hb
  have H0 := Lib.hid h0
  clear hY hJ hb h0 hBs
  refine callsIn_of_wp Try.func114 rfl trivial ?_ rfl
  simp only [Try.ntmps114, List.size_toArray, List.length_cons, List.length_nil, Nat.reduceAdd, Nat.reduceSub, Array.replicate_succ, Array.replicate_zero, List.push_toArray, List.append_toArray, List.nil_append, List.cons_append]
  gi_wp2_with fail
  refine wpInW_scope_jumps 0 (fun a' X => ∃ (pre : List Rc) (k : Nat) (A' : Option Addr) (c' : Nat) (u5 u6 u7 u8 u9 u10 u11 u12 u13 u14 u15 u16 u17 u18 u19 u20 u21 u22 u23 u24 u25 u26 u27 u28 u29 : Value), a' = { tmps := #[.func (.yield l) #[] #[], .pointer (some ⟨Bs, 0, none⟩), undef, .pointer (some ⟨W.heap.size, 0, none⟩), .func (.func 115) #[.pointer (some ⟨W.heap.size, 0, none⟩)] #[], u5, u6, u7, u8, u9, u10, u11, u12, u13, u14, u15, u16, u17, u18, u19, u20, u21, u22, u23, u24, u25, u26, u27, u28, u29], defers := [] } ∧ Hid (RecJ bs W.heap.size J pre k A' c' X)) (fun _ X => bs.length - scanAt W.heap.size X) rfl ?_ ?_
  · gi_wp2_with fail
    refine wpIn_label ?_
    simp only [Exit.then]
    have HR : Hid (RecJ bs W.heap.size J [] 0 A cap (W.alloc (.cells #[.slice A bs.length cap, .int .i64 0] 150))) := Lib.hid ⟨HJ.out [] W _ none H0.out (grown_of_below (below_al (Below.refl _ _) _)) (fun r e => by cases e), new_here W _, by simpa using HB.out.below (below_al (Below.refl _ _) _), ScanR.start bs⟩
    have hcall := next_rec W.heap.size 0 A cap bs _ HR.out.box HR.out.rest (Nat.zero_le _) hl
    cases hf : firstW (bs.drop 0) with
    | error en =>
      rw [hf] at hcall
      have HC : Hid (Calls Try.prog 115 #[.pointer (some ⟨W.heap.size, 0, none⟩)] (W.alloc (.cells #[.slice A bs.length cap, .int .i64 0] 150)) fun e X' => e = .returned (.tuple #[.agg #[.slice none 0 0, .int .i64 0], .bool false]) ∧ Below ((W.alloc (.cells #[.slice A bs.length cap, .int .i64 0] 150))).heap.size (W.alloc (.cells #[.slice A bs.length cap, .int .i64 0] 150)) X') := Lib.hid hcall
      have HD := Lib.hid (HR.out.inv.done hf)
      clear hcall hf
      gi_wp2_with (refine ⟨trivial, ?_⟩; gi_at_call 115; refine (callsIn_wide.2 HC.out).mono ?_; rintro e X1 ⟨rfl, hb1⟩)
      refine ⟨fun _ h => (by cases h), ?_⟩
      gi_wp2
      simp only [Exit.jump]
      go_end0
      exact ⟨⟨_, rfl⟩, [], HD.out.1, HJ.out _ _ _ none HR.out.j (grown_of_below (below_al hb1 _)) (fun r e => by cases e)⟩
    | ok h =>
      rw [hf] at hcall
      have HC : Hid (Calls Try.prog 115 #[.pointer (some ⟨W.heap.size, 0, none⟩)] (W.alloc (.cells #[.slice A bs.length cap, .int .i64 0] 150)) fun e X' => ∃ A1 c1 A2 c2, e = .returned (.tuple #[.agg #[.slice A1 h.length c1, .int .i64 ((h.length : Int) + 8)], .bool true]) ∧ Bt X' (.slice A1 h.length c1) h ∧
        X'.heap[W.heap.size]? = some (.cells #[.slice A2 (bs.length - (0 + (h.length + 8))) c2, .int .i64 ((0 + (h.length + 8) : Nat) : Int)] 150 (0, 0)) ∧ Bt X' (.slice A2 (bs.length - (0 + (h.length + 8))) c2) (bs.drop (0 + (h.length + 8))) ∧ ((W.alloc (.cells #[.slice A bs.length cap, .int .i64 0] 150))).grownBy X' (some W.heap.size)) := Lib.hid hcall
      have HN : Hid (ScanR bs (([] ++ [(⟨0, h, none, 0⟩ : Rc)]).map Rc.pair) (0 + (h.length + 8))) := Lib.hid (by
        have := HR.out.inv.next hf
        rw [List.map_append]
        exact this)
      have HLE : Hid (0 + (h.length + 8) ≤ bs.length) := Lib.hid HN.out.le
      clear hcall hf
      gi_wp2_with (refine ⟨trivial, ?_⟩; gi_at_call 115; refine (callsIn_wide.2 HC.out).mono ?_; rintro e X1 ⟨A1, c1, A2, c2, rfl, ho1, hx1, hr1, hg1⟩; (have hj1 : J [] (X1.alloc (.cells #[.slice A1 h.length c1, .int .i64 ((h.length : Int) + 8)] 121)) := HJ.out [] X1 _ none (HJ.out [] _ X1 (some W.heap.size) HR.out.j hg1 (fun r e => by cases e; exact ⟨hD, _, _, HR.out.box⟩)) (grown_of_below (below_al (Below.refl _ _) _)) (fun r e => by cases e)); (have HX2 := Lib.hid (new_next X1 (.cells #[.slice A1 h.length c1, .int .i64 ((h.length : Int) + 8)] 121) hx1)); (have HR2 := Lib.hid (hr1.below (below_al (Below.refl _ _) (.cells #[.slice A1 h.length c1, .int .i64 ((h.length : Int) + 8)] 121)))); (obtain ⟨fn, tmps, assign, body, hy, hRd⟩ := HY.out [] ⟨0, h, A1, c1⟩ _ hj1 ⟨ho1.below (below_al (Below.refl _ _) _), HLE.out, by have := HN.out; rw [List.map_append] at this ⊢; exact this⟩); (have hy2 : (Instr.yield l #[.int .i64 0, .agg #[.slice A1 h.length c1, .int .i64 ((h.length : Int) + 8)]]).run Try.prog (X1.alloc (.cells #[.slice A1 h.length c1, .int .i64 ((h.length : Int) + 8)] 121)) = .ok (.round l fn tmps assign body) (X1.alloc (.cells #[.slice A1 h.length c1, .int .i64 ((h.length : Int) + 8)] 121)) := hy); (clear hy); (clear ho1 hx1 hr1 hg1 hj1))
      refine hRd.mono ?_
      rintro e W3 ⟨rfl, hJ3, hk3⟩
      have HRN : Hid (RecJ bs W.heap.size J ([] ++ [(⟨0, h, A1, c1⟩ : Rc)]) (0 + (h.length + 8)) A2 c2 W3) := Lib.hid ⟨hJ3, hk3.2 _ _ _ _ HX2.out (.inr rfl), HR2.out.keptK hk3, by
        have := HN.out
        rw [List.map_append] at this ⊢
        exact this⟩
      clear hRd hy2 hJ3 hk3
      gi_wp2
      refine (wpIn_wide (n := n)).2 ?_
      go_step3
      exact ⟨rfl, _, _, _, _, _, _, _, _, _, _, _, _, _, _, _, _, _, _, _, _, _, _, _, _, _, _, _, _, _, rfl, HRN⟩
  · rintro a' X ⟨pre, k, A', c', u5, u6, u7, u8, u9, u10, u11, u12, u13, u14, u15, u16, u17, u18, u19, u20, u21, u22, u23, u24, u25, u26, u27, u28, u29, rfl, HR⟩
    have hbx := HR.out.box
    have s1 : X.cell? ⟨W.heap.size, 1, none⟩ = some (.int .i64 (k : Int)) := cell_of_heap hbx
    have hcall := next_rec W.heap.size k A' c' bs X hbx HR.out.rest HR.out.inv.le hl
    clear hbx
    cases hf : firstW (bs.drop k) with
    | error en =>
      rw [hf] at hcall
      have HC : Hid (Calls Try.prog 115 #[.pointer (some ⟨W.heap.size, 0, none⟩)] X fun e X' => e = .returned (.tuple #[.agg #[.slice none 0 0, .int .i64 0], .bool false]) ∧ Below (X).heap.size X X') := Lib.hid hcall
      have HD := Lib.hid (HR.out.inv.done hf)
      clear hcall hf
      gi_wp2_with (refine ⟨trivial, ?_⟩; gi_at_call 115; refine (callsIn_wide.2 HC.out).mono ?_; rintro e X1 ⟨rfl, hb1⟩)
      refine ⟨fun _ h => (by cases h), ?_⟩
      gi_wp2
      simp only [Exit.jump]
      go_end0
      exact ⟨⟨_, rfl⟩, pre, HD.out.1, HJ.out _ _ _ none HR.out.j (grown_of_below (below_al hb1 _)) (fun r e => by cases e)⟩
    | ok h =>
      rw [hf] at hcall
      have HC : Hid (Calls Try.prog 115 #[.pointer (some ⟨W.heap.size, 0, none⟩)] X fun e X' => ∃ A1 c1 A2 c2, e = .returned (.tuple #[.agg #[.slice A1 h.length c1, .int .i64 ((h.length : Int) + 8)], .bool true]) ∧ Bt X' (.slice A1 h.length c1) h ∧
        X'.heap[W.heap.size]? = some (.cells #[.slice A2 (bs.length - (k + (h.length + 8))) c2, .int .i64 ((k + (h.length + 8) : Nat) : Int)] 150 (0, 0)) ∧ Bt X' (.slice A2 (bs.length - (k + (h.length + 8))) c2) (bs.drop (k + (h.length + 8))) ∧ (X).grownBy X' (some W.heap.size)) := Lib.hid hcall
      have HN : Hid (ScanR bs ((pre ++ [(⟨k, h, none, 0⟩ : Rc)]).map Rc.pair) (k + (h.length + 8))) := Lib.hid (by
        have := HR.out.inv.next hf
        rw [List.map_append]
        exact this)
      have HLE : Hid (k + (h.length + 8) ≤ bs.length) := Lib.hid HN.out.le
      clear hcall hf
      gi_wp2_with (refine ⟨trivial, ?_⟩; gi_at_call 115; refine (callsIn_wide.2 HC.out).mono ?_; rintro e X1 ⟨A1, c1, A2, c2, rfl, ho1, hx1, hr1, hg1⟩; (have hj1 : J pre (X1.alloc (.cells #[.slice A1 h.length c1, .int .i64 ((h.length : Int) + 8)] 121)) := HJ.out pre X1 _ none (HJ.out pre _ X1 (some W.heap.size) HR.out.j hg1 (fun r e => by cases e; exact ⟨hD, _, _, HR.out.box⟩)) (grown_of_below (below_al (Below.refl _ _) _)) (fun r e => by cases e)); (have HX2 := Lib.hid (new_next X1 (.cells #[.slice A1 h.length c1, .int .i64 ((h.length : Int) + 8)] 121) hx1)); (have HR2 := Lib.hid (hr1.below (below_al (Below.refl _ _) (.cells #[.slice A1 h.length c1, .int .i64 ((h.length : Int) + 8)] 121)))); (obtain ⟨fn, tmps, assign, body, hy, hRd⟩ := HY.out pre ⟨k, h, A1, c1⟩ _ hj1 ⟨ho1.below (below_al (Below.refl _ _) _), HLE.out, by have := HN.out; rw [List.map_append] at this ⊢; exact this⟩); (have hy2 : (Instr.yield l #[.int .i64 (k : Int), .agg #[.slice A1 h.length c1, .int .i64 ((h.length : Int) + 8)]]).run Try.prog (X1.alloc (.cells #[.slice A1 h.length c1, .int .i64 ((h.length : Int) + 8)] 121)) = .ok (.round l fn tmps assign body) (X1.alloc (.cells #[.slice A1 h.length c1, .int .i64 ((h.length : Int) + 8)] 121)) := hy); (clear hy); (clear ho1 hx1 hr1 hg1 hj1))
      refine hRd.mono ?_
      rintro e W3 ⟨rfl, hJ3, hk3⟩
      have HRN : Hid (RecJ bs W.heap.size J (pre ++ [(⟨k, h, A1, c1⟩ : Rc)]) (k + (h.length + 8)) A2 c2 W3) := Lib.hid ⟨hJ3, hk3.2 _ _ _ _ HX2.out (.inr rfl), HR2.out.keptK hk3, by
        have := HN.out
        rw [List.map_append] at this ⊢
        exact this⟩
      clear hRd hy2 hJ3 hk3
      gi_wp2
      refine (wpIn_wide (n := n)).2 ?_
      go_step3
      refine ⟨rfl, ⟨_, _, _, _, _, _, _, _, _, _, _, _, _, _, _, _, _, _, _, _, _, _, _, _, _, _, _, _, _, rfl, HRN⟩, ?_⟩
      have m1 := scanAt_box HRN.out.box
      have m2 := scanAt_box HR.out.box
      have := HLE.out
      rw [m1, m2]
      omega
end Go.Proofs.Ytnhmhnejglpijaa
