/- journal: Scan: the walk. -/
import Derived.Test.YtnhmhnejglpijaaQr
namespace Go.Proofs.Ytnhmhnejglpijaa
open Go.RowKit Go.Shelf
attribute [local go_sem] Oper.semAt_some
set_option maxRecDepth 100000
set_option linter.unusedSimpArgs false
set_option linter.unusedVariables false
def foundObj (x : Rc) : Obj := .cells #[.slice x.addr x.held.length x.cap, .int .i64 ((x.held.length : Int) + 8)] 121
theorem RcOk.below {bs : List B8} {pre : List Rc} {x : Rc} {W W' : World} (h : RcOk bs pre x W) (hb : Below W.heap.size W W') : RcOk bs pre x W' := ⟨h.1.below hb, h.2⟩
theorem RcOk.put {bs : List B8} {pre : List Rc} {x : Rc} {W : World} (h : RcOk bs pre x W) (l : Nat) (o o' : Obj) (hl : W.heap[l]? = some o) (ho : o.isCells = false) : RcOk bs pre x (W.putObj l o') := ⟨h.1.put l o o' hl ho, h.2⟩
theorem RcKp.below {W W' : World} (h : Below W.heap.size W W') : RcKp W W' := ⟨h.size, fun b c t f hb _ => (h.block b (lt_of_heap hb)).trans hb⟩
theorem found_put (x : Rc) (W : World) (l : Nat) (o o' : Obj) (hl : W.heap[l]? = some o) (ho : o.isCells = false) : ((W.alloc (foundObj x)).putObj l o').heap[W.heap.size]? = some (foundObj x) :=
  (World.putObj_heap_other (by have := lt_of_heap hl; omega)).trans (new_here W _)
theorem scan_app {w B X w8 : World} {pre : List Rc} {x : Rc} {v vn : Value} {F : Nat} {o : Obj} (hI : ScI w pre B) (hv : B.heap[w.heap.size]? = some (.cells #[v] 63 (0, 0))) (ho : OwnRs (fun W v bs => Own8 W w.heap.size v bs) B w.heap.size v (heldL (pre.map Rc.pair)))
    (hX : Below B.heap.size B X) (hF : B.heap[F]? = some (foundObj x)) (hg : (X.alloc o).grownBy w8 v.ownBlock) :
    w8.cell? ⟨w.heap.size, 0, none⟩ = some v ∧ w8.frozen? ⟨w.heap.size, 0, none⟩ = false ∧ w8.cell? ⟨F, 1, none⟩ = some (.int .i64 ((x.held.length : Int) + 8)) ∧ (w8.setCell ⟨w.heap.size, 0, none⟩ vn).cell? ⟨F, 1, none⟩ = some (.int .i64 ((x.held.length : Int) + 8)) ∧
    (w8.setCell ⟨w.heap.size, 0, none⟩ vn).cell? ⟨w.heap.size + 1, 0, none⟩ = some (.int .i64 (endL (pre.map Rc.pair) : Int)) ∧ (w8.setCell ⟨w.heap.size, 0, none⟩ vn).frozen? ⟨w.heap.size + 1, 0, none⟩ = false := by
  have far : ∀ {k : Nat} {o : Obj}, B.heap[k]? = some o → (∀ c, o ≠ .cells c 34 (0, 0)) → w8.heap[k]? = some o := by
    intro k o' hk hne
    have h1 : (X.alloc o).heap[k]? = some o' := ((hX.alloc hX.size o).block k (lt_of_heap hk)).trans hk
    refine grownBy_ne hg h1 (fun r e hr => ?_)
    obtain ⟨_, c, hc⟩ := ho.type r e
    have := ((hX.alloc hX.size o).block r (lt_of_heap hc)).trans hc
    rw [hr] at this
    cases this
    exact hne c rfl
  have hb8 := far hv (fun c e => by cases e)
  have hs8 := far hI.sz (fun c e => by cases e)
  have hf8 := far hF (fun c e => by cases e)
  have hne : F ≠ w.heap.size := fun e => by
    subst e
    rw [hv] at hF
    cases hF
  have hs9 := (Below.heap_setCell w8 ⟨w.heap.size, 0, none⟩ vn (w.heap.size + 1) (by simp)).trans hs8
  have hf9 := (Below.heap_setCell w8 ⟨w.heap.size, 0, none⟩ vn F hne).trans hf8
  exact ⟨cell_of_heap hb8, free_of_heap hb8, cell_of_heap hf8, cell_of_heap hf9, cell_of_heap hs9, free_of_heap hs9⟩
set_option maxHeartbeats 4000000 in
theorem scanJ_in (n : Nat) (hn : 3 ≤ n) (v : Value) (bs : List B8) (w : World) (hb : Bt w v bs) (hl : bs.length ≤ 1000000) :
    CallsIn Fence.wide n Try.prog 46 #[v] w fun e w' => ∃ v', e = .returned (.tuple #[v', .int .i64 (endL (recAt bs 0) : Int)]) ∧ OwnRs (fun W v bs => Own8 W w.heap.size v bs) w' w.heap.size v' (heldL (recAt bs 0)) ∧ Below w.heap.size w w' := by
  obtain ⟨A, cap, rfl, hc1, hc2, _⟩ := id hb.1
  have HB := Lib.hid hb
  have h1 : 1 ≤ n := by omega
  clear hb
  refine callsIn_of_wp_marks Try.func46 rfl trivial ?_ rfl
  simp only [Try.ntmps46, List.size_toArray, List.length_cons, List.length_nil, Nat.reduceAdd, Nat.reduceSub, Array.replicate_succ, Array.replicate_zero, List.push_toArray, List.append_toArray, List.nil_append, List.cons_append]
  gi_wp2_with (refine ⟨trivial, ?_⟩; gi_at_call 87; refine (records_in _ _ _ _ _).mono ?_; rintro e w' ⟨rfl, rfl⟩)
  obtain ⟨w3, hw3⟩ : ∃ w3, ((w.alloc (.cells #[.slice none 0 0] 63)).alloc (.cells #[.int .i64 0] 3)).alloc (.cells #[.slice A bs.length cap] 34) = w3 := ⟨_, rfl⟩
  have hs3 : w3.heap.size = w.heap.size + 3 := by rw [← hw3]; simp
  have hb3 : Below w.heap.size w w3 := by rw [← hw3]; exact below_al (below_al (below_al (Below.refl _ _) _) _) _
  have hI0 : ScI w [] w3 := by
    refine ⟨hb3, ⟨.slice none 0 0, ?_, OwnRs.nil _ _ _⟩, ?_⟩
    · rw [← hw3]
      exact new_next _ _ (new_next _ _ (new_here w _))
    · rw [← hw3]
      have := new_here (w.alloc (.cells #[.slice none 0 0] 63)) (.cells #[.int .i64 0] 3)
      rw [World.size_alloc] at this
      exact new_next _ _ this
  have hB3 : w3.heap[w.heap.size + 2]? = some (.cells #[.slice A bs.length cap] 34 (0, 0)) := by
    rw [← hw3]
    have := new_here ((w.alloc (.cells #[.slice none 0 0] 63)).alloc (.cells #[.int .i64 0] 3)) (.cells #[.slice A bs.length cap] 34)
    rw [World.size_alloc, World.size_alloc] at this
    exact this
  rw [hw3]
  refine range_ok2 h1 rfl (fun _ _ => rfl) (recs_seq (n - 1) (by omega) (w.heap.size + 2) A cap bs hl w3 hB3 (HB.out.below hb3)) RcKp.trans RcKp.put (fun pre x W l o o' h hl ho => h.put l o o' hl ho) (fun x => rfl)
    (ScI w) (ScI.stays w _ hb3.size) hI0
    (fun x W => { tmps := #[.slice A bs.length cap, undef, .slice none 0 0, .int .i64 0, .pointer (some ⟨w.heap.size, 0, none⟩), .pointer (some ⟨w.heap.size + 1, 0, none⟩), .int .i64 (x.pos : Int), .pointer (some ⟨W.heap.size, 0, none⟩), undef, .slice A bs.length cap,
      .func (.func 114) #[] #[.pointer (some ⟨w.heap.size + 1 + 1, 0, none⟩)], .int .i64 (x.pos : Int), .agg #[.slice x.addr x.held.length x.cap, .int .i64 ((x.held.length : Int) + 8)], undef, undef, undef, undef, undef, undef, undef, undef, undef, undef, undef, undef, undef, undef, undef, undef, undef, undef], defers := [] })
    (fun x W => W.alloc (foundObj x)) (fun x W => below_al (Below.refl _ _) _) (fun W W' h => RcKp.below h) (fun pre x W W' h hb => h.below hb)
    (fun x W B => B.heap[W.heap.size]? = some (foundObj x)) (fun x W l o o' hl ho => found_put x W l o o' hl ho) ?_ ?_ ?_
  · intro l x W K hK
    have e : ((#[11, 12] : Array Tmp).zip x.vals).foldl (fun t (p, v) => t.setIfInBounds p v) #[Value.slice A bs.length cap, undef, .slice none 0 0, .int .i64 0, .pointer (some ⟨w.heap.size, 0, none⟩), .pointer (some ⟨w.heap.size + 1, 0, none⟩), undef, undef, undef, .slice A bs.length cap,
      .func (.func 114) #[] #[.pointer (some ⟨w.heap.size + 1 + 1, 0, none⟩)], undef, undef, undef, undef, undef, undef, undef, undef, undef, undef, undef, undef, undef, undef, undef, undef, undef, undef, undef, undef] = #[.slice A bs.length cap, undef, .slice none 0 0, .int .i64 0, .pointer (some ⟨w.heap.size, 0, none⟩), .pointer (some ⟨w.heap.size + 1, 0, none⟩), undef, undef, undef, .slice A bs.length cap,
      .func (.func 114) #[] #[.pointer (some ⟨w.heap.size + 1 + 1, 0, none⟩)], .int .i64 (x.pos : Int), .agg #[.slice x.addr x.held.length x.cap, .int .i64 ((x.held.length : Int) + 8)], undef, undef, undef, undef, undef, undef, undef, undef, undef, undef, undef, undef, undef, undef, undef, undef, undef, undef] := by kernel_rfl
    rw [e]
    gi_wp2
    exact hK
  · intro l pre x W B hI hok hF
    obtain ⟨v, hv, ho⟩ := hI.out
    have hlen : x.held.length ≤ 1000000 := by have := hok.2.1; omega
    have f1 : B.cell? ⟨W.heap.size, 0, none⟩ = some (.slice x.addr x.held.length x.cap) := cell_of_heap hF
    have f2 : B.cell? ⟨W.heap.size, 1, none⟩ = some (.int .i64 ((x.held.length : Int) + 8)) := cell_of_heap hF
    have HF := Lib.hid hF
    have HI := Lib.hid hI
    have HV := Lib.hid hv
    have HO := Lib.hid ho
    have HOK := Lib.hid hok
    have HLEN := Lib.hid hlen
    clear hF hI hv ho hok
    have hmk : ∀ w, (Instr.makeSlice 34 (.int .i64 x.held.length) (.int .i64 x.held.length)).run Try.prog w = .ok (.slice (some ⟨w.heap.size, 0, none⟩) x.held.length x.held.length) (w.alloc (.cells (zb x.held.length) 5)) := fun w => run_make8 w x.held.length x.held.length (Nat.le_refl _) (by omega)
    clear hlen
    have f3 : (B.alloc (.cells (zb x.held.length) 5)).cell? ⟨W.heap.size, 0, none⟩ = some (.slice x.addr x.held.length x.cap) := cell_of_heap (new_next _ _ HF.out)
    gi_wp2_with ((refine list_round (by rintro ⟨_, _, h⟩; exact h) _ _ _ (by intro o ho c; simp only [List.mem_cons, List.not_mem_nil, or_false] at ho; subst ho; intro h; cases h) ?_); (refine wpList_copy_splice rfl (.tmp 17) (.tmp 19) 34 34 rfl 5 Try.underlying34 (by kernel_rfl) _ _ _ _ _ _ rfl rfl B.heap.size 0 (bvals (List.replicate x.held.length 0#8)) 5 ?hg (bvals x.held) ?hn ?hpos ?hfit (bvals_one x.held) B.heap.size B (below_al (Below.refl _ _) _) (Nat.le_refl _) ?_); rotate_left 4; intro w6 hg6 hb6; refine wpList_nil ?_)
    case hg => exact new_here B _
    case hn => simp [bvals_length]
    case hfit => simp [bvals_length]
    case hpos =>
      intro hp
      obtain ⟨⟨A', cap', e, _, _, _, h4⟩, _⟩ := HOK.out.1.below (below_al (Below.refl _ B) (.cells (zb x.held.length) 5))
      cases e
      rw [bvals_length] at hp
      obtain ⟨b, off, e, hc⟩ := h4 hp
      refine ⟨_, e, fun j u hu => ?_⟩
      obtain ⟨hj, rfl⟩ := bvals_get' hu
      rw [add_off]
      exact hc j hj
    simp only [Act.put, List.setIfInBounds_toArray, List.set_cons_succ, List.set_cons_zero]
    refine region_round 10 rfl (by kernel_rfl) (by rintro ⟨_, _, h⟩; exact h) ?_
    obtain ⟨X, hX⟩ : ∃ X, w6.drew = X := ⟨_, rfl⟩
    rw [hX]
    have hX6 : X.heap = w6.heap := by rw [← hX]; rfl
    have HX : Hid (Below B.heap.size B X) := Lib.hid (by rw [← hX]; exact hb6.drew)
    have HUX : Hid (Own8 X w.heap.size (.slice (some ⟨B.heap.size, 0, none⟩) x.held.length x.held.length) x.held) := Lib.hid (by
      refine own8_of_heap (cur := bvals x.held) HI.out.below.size ?_ (bvals_length _) rfl (Nat.le_refl _) (by have := HLEN.out; unfold maxLen; omega) (List.take_of_length_le (Nat.le_of_eq (bvals_length _)))
      rw [hX6, ← splice_all x.held]
      exact hg6.out)
    have HOX : Hid (OwnRs (fun W v bs => Own8 W w.heap.size v bs) X w.heap.size v (heldL (pre.map Rc.pair))) := Lib.hid (HO.out.below (el_own _) HX.out)
    have hbX : w.heap.size ≤ X.heap.size := Nat.le_trans HI.out.below.size HX.out.size
    have hpl : (heldL (pre.map Rc.pair)).length ≤ 1000000 := by
      have := HOK.out.2.2.few
      rw [heldL_length]
      simp only [List.map_append, List.length_append] at this
      omega
    have HZ : Hid (IntKind.i64.wrap ((x.pos : Int) + ((x.held.length : Int) + 8)) = ((endL ((pre ++ [x]).map Rc.pair) : Nat) : Int)) := Lib.hid (by
      have h1 := HOK.out.2.2.sum
      have h2 := HOK.out.2.1
      rw [← h1]
      have h3 : (x.pos : Int) + ((x.held.length : Int) + 8) = ((x.pos + (x.held.length + 8) : Nat) : Int) := by omega
      rw [h3, IntKind.wrap_i64]
      omega)
    have x1 : X.cell? ⟨w.heap.size, 0, none⟩ = some v := cell_of_heap ((HX.out.block _ (lt_of_heap HV.out)).trans HV.out)
    have x2 : X.cell? ⟨W.heap.size, 1, none⟩ = some (.int .i64 ((x.held.length : Int) + 8)) := cell_of_heap ((HX.out.block _ (lt_of_heap HF.out)).trans HF.out)
    have y1 : (X.alloc (.cells #[.slice (some ⟨B.heap.size, 0, none⟩) x.held.length x.held.length] 34)).cell? ⟨w.heap.size, 0, none⟩ = some v := cell_of_heap (new_next _ _ ((HX.out.block _ (lt_of_heap HV.out)).trans HV.out))
    have y2 : (X.alloc (.cells #[.slice (some ⟨B.heap.size, 0, none⟩) x.held.length x.held.length] 34)).cell? ⟨W.heap.size, 1, none⟩ = some (.int .i64 ((x.held.length : Int) + 8)) := cell_of_heap (new_next _ _ ((HX.out.block _ (lt_of_heap HF.out)).trans HF.out))
    have HBX := Lib.hid hbX
    have HPL := Lib.hid hpl
    have HOY : Hid (OwnRs (fun W v bs => Own8 W w.heap.size v bs) (X.alloc (.cells #[.slice (some ⟨B.heap.size, 0, none⟩) x.held.length x.held.length] 34)) w.heap.size v (heldL (pre.map Rc.pair))) := Lib.hid (HOX.out.below (el_own _) (below_al (Below.refl _ _) _))
    have HUY : Hid (Own8 (X.alloc (.cells #[.slice (some ⟨B.heap.size, 0, none⟩) x.held.length x.held.length] 34)) w.heap.size (.slice (some ⟨B.heap.size, 0, none⟩) x.held.length x.held.length) x.held) := Lib.hid (HUX.out.alloc _)
    have HBY : Hid (w.heap.size ≤ (X.alloc (.cells #[.slice (some ⟨B.heap.size, 0, none⟩) x.held.length x.held.length] 34)).heap.size) := Lib.hid (by rw [World.size_alloc]; omega)
    clear hX hX6 hg6 hb6 hbX hpl hmk f1 f2 f3
    (refine wpAny_take (i := 1) (v := ?_) rfl ?_ ?_ ?_ ?_ ?_ ?_; rotate_left; (focus decide +kernel); (focus decide +kernel); (focus decide +kernel); (focus exact fun _ _ _ h => h); (focus (refine Or.inl ⟨by rfl, ?_⟩; intro w; go_simp; try with_reducible rfl)))
    (refine wpAny_take (i := 4) (v := ?_) rfl ?_ ?_ ?_ ?_ ?_ ?_; rotate_left; (focus decide +kernel); (focus decide +kernel); (focus decide +kernel); (focus exact fun _ _ _ h => h); (focus (refine Or.inl ⟨by rfl, ?_⟩; intro w; go_simp; try with_reducible rfl)))
    (refine wpAny_take (i := 5) (v := ?_) rfl ?_ ?_ ?_ ?_ ?_ ?_; rotate_left; (focus decide +kernel); (focus decide +kernel); (focus decide +kernel); (focus exact fun _ _ _ h => h); (focus (refine Or.inl ⟨by rfl, ?_⟩; intro w; go_simp; try with_reducible rfl)))
    iterate 8 (all_goals (try (first
      | (refine wpAny_take (i := 7) (v := ?_) rfl ?_ ?_ ?_ ?_ ?_ ?_; rotate_left; (focus decide +kernel); (focus decide +kernel); (focus decide +kernel); (focus exact fun _ _ _ h => h); (focus (refine Or.inl ⟨by rfl, ?_⟩; intro w; go_simp; try with_reducible rfl)))
      | (refine wpAny_ready (rs := [0,2,6]) (by decide +kernel) (by simp) (AllReady.cons rfl (fun K hK => ?_) (AllReady.cons rfl (fun K hK => ?_) (AllReady.cons rfl (fun K hK => ?_) AllReady.nil))) <;> ((first | (refine step_appR (el_own _) rfl (.tmp 21) (.tmp 23) rfl w.heap.size v (heldL (pre.map Rc.pair)) rfl HOY.out X.heap.size x.held (.slice (some ⟨B.heap.size, 0, none⟩) x.held.length x.held.length) 34 (0, 0) rfl (new_here X _) HUY.out HPL.out HBY.out _ rfl ?_; intro g cp w8 h8 hg8 hnb8 heq8 hlt8; have hZ := Lib.hid (scan_app (vn := .slice (some ⟨g, 0, none⟩) ((heldL (pre.map Rc.pair)).length + 1) cp) HI.out HV.out HO.out HX.out HF.out hg8); have z1 := hZ.out.1; have z2 := hZ.out.2.1; have z3 := hZ.out.2.2.1; have z4 := hZ.out.2.2.2.1; have z5 := hZ.out.2.2.2.2.1; have z6 := hZ.out.2.2.2.2.2; have hDN := Lib.hid (scan_done HI.out HV.out HO.out (HX.out.alloc HX.out.size _) hg8 h8 (IntKind.i64.wrap ((x.pos : Int) + ((x.held.length : Int) + 8))) HZ.out); clear hZ h8 hg8 hnb8 heq8 hlt8) | go_simp); refine hK _ _ ?_; clear hK K))
      | (refine wpAny_ready (rs := [2,6]) (by decide +kernel) (by simp) (AllReady.cons rfl (fun K hK => ?_) (AllReady.cons rfl (fun K hK => ?_) AllReady.nil)) <;> ((first | (refine step_appR (el_own _) rfl (.tmp 21) (.tmp 23) rfl w.heap.size v (heldL (pre.map Rc.pair)) rfl HOY.out X.heap.size x.held (.slice (some ⟨B.heap.size, 0, none⟩) x.held.length x.held.length) 34 (0, 0) rfl (new_here X _) HUY.out HPL.out HBY.out _ rfl ?_; intro g cp w8 h8 hg8 hnb8 heq8 hlt8; have hZ := Lib.hid (scan_app (vn := .slice (some ⟨g, 0, none⟩) ((heldL (pre.map Rc.pair)).length + 1) cp) HI.out HV.out HO.out HX.out HF.out hg8); have z1 := hZ.out.1; have z2 := hZ.out.2.1; have z3 := hZ.out.2.2.1; have z4 := hZ.out.2.2.2.1; have z5 := hZ.out.2.2.2.2.1; have z6 := hZ.out.2.2.2.2.2; have hDN := Lib.hid (scan_done HI.out HV.out HO.out (HX.out.alloc HX.out.size _) hg8 h8 (IntKind.i64.wrap ((x.pos : Int) + ((x.held.length : Int) + 8))) HZ.out); clear hZ h8 hg8 hnb8 heq8 hlt8) | go_simp); refine hK _ _ ?_; clear hK K))
      | (refine wpAny_ready (rs := [0,6]) (by decide +kernel) (by simp) (AllReady.cons rfl (fun K hK => ?_) (AllReady.cons rfl (fun K hK => ?_) AllReady.nil)) <;> ((first | (refine step_appR (el_own _) rfl (.tmp 21) (.tmp 23) rfl w.heap.size v (heldL (pre.map Rc.pair)) rfl HOY.out X.heap.size x.held (.slice (some ⟨B.heap.size, 0, none⟩) x.held.length x.held.length) 34 (0, 0) rfl (new_here X _) HUY.out HPL.out HBY.out _ rfl ?_; intro g cp w8 h8 hg8 hnb8 heq8 hlt8; have hZ := Lib.hid (scan_app (vn := .slice (some ⟨g, 0, none⟩) ((heldL (pre.map Rc.pair)).length + 1) cp) HI.out HV.out HO.out HX.out HF.out hg8); have z1 := hZ.out.1; have z2 := hZ.out.2.1; have z3 := hZ.out.2.2.1; have z4 := hZ.out.2.2.2.1; have z5 := hZ.out.2.2.2.2.1; have z6 := hZ.out.2.2.2.2.2; have hDN := Lib.hid (scan_done HI.out HV.out HO.out (HX.out.alloc HX.out.size _) hg8 h8 (IntKind.i64.wrap ((x.pos : Int) + ((x.held.length : Int) + 8))) HZ.out); clear hZ h8 hg8 hnb8 heq8 hlt8) | go_simp); refine hK _ _ ?_; clear hK K))
      | (refine wpAny_ready (rs := [0,2]) (by decide +kernel) (by simp) (AllReady.cons rfl (fun K hK => ?_) (AllReady.cons rfl (fun K hK => ?_) AllReady.nil)) <;> ((first | (refine step_appR (el_own _) rfl (.tmp 21) (.tmp 23) rfl w.heap.size v (heldL (pre.map Rc.pair)) rfl HOY.out X.heap.size x.held (.slice (some ⟨B.heap.size, 0, none⟩) x.held.length x.held.length) 34 (0, 0) rfl (new_here X _) HUY.out HPL.out HBY.out _ rfl ?_; intro g cp w8 h8 hg8 hnb8 heq8 hlt8; have hZ := Lib.hid (scan_app (vn := .slice (some ⟨g, 0, none⟩) ((heldL (pre.map Rc.pair)).length + 1) cp) HI.out HV.out HO.out HX.out HF.out hg8); have z1 := hZ.out.1; have z2 := hZ.out.2.1; have z3 := hZ.out.2.2.1; have z4 := hZ.out.2.2.2.1; have z5 := hZ.out.2.2.2.2.1; have z6 := hZ.out.2.2.2.2.2; have hDN := Lib.hid (scan_done HI.out HV.out HO.out (HX.out.alloc HX.out.size _) hg8 h8 (IntKind.i64.wrap ((x.pos : Int) + ((x.held.length : Int) + 8))) HZ.out); clear hZ h8 hg8 hnb8 heq8 hlt8) | go_simp); refine hK _ _ ?_; clear hK K))
      | (refine wpAny_ready (rs := [3,6]) (by decide +kernel) (by simp) (AllReady.cons rfl (fun K hK => ?_) (AllReady.cons rfl (fun K hK => ?_) AllReady.nil)) <;> ((first | (refine step_appR (el_own _) rfl (.tmp 21) (.tmp 23) rfl w.heap.size v (heldL (pre.map Rc.pair)) rfl HOY.out X.heap.size x.held (.slice (some ⟨B.heap.size, 0, none⟩) x.held.length x.held.length) 34 (0, 0) rfl (new_here X _) HUY.out HPL.out HBY.out _ rfl ?_; intro g cp w8 h8 hg8 hnb8 heq8 hlt8; have hZ := Lib.hid (scan_app (vn := .slice (some ⟨g, 0, none⟩) ((heldL (pre.map Rc.pair)).length + 1) cp) HI.out HV.out HO.out HX.out HF.out hg8); have z1 := hZ.out.1; have z2 := hZ.out.2.1; have z3 := hZ.out.2.2.1; have z4 := hZ.out.2.2.2.1; have z5 := hZ.out.2.2.2.2.1; have z6 := hZ.out.2.2.2.2.2; have hDN := Lib.hid (scan_done HI.out HV.out HO.out (HX.out.alloc HX.out.size _) hg8 h8 (IntKind.i64.wrap ((x.pos : Int) + ((x.held.length : Int) + 8))) HZ.out); clear hZ h8 hg8 hnb8 heq8 hlt8) | go_simp); refine hK _ _ ?_; clear hK K))
      | (refine wpAny_ready (rs := [3]) (by decide +kernel) (by simp) (AllReady.cons rfl (fun K hK => ?_) AllReady.nil) <;> ((first | (refine step_appR (el_own _) rfl (.tmp 21) (.tmp 23) rfl w.heap.size v (heldL (pre.map Rc.pair)) rfl HOY.out X.heap.size x.held (.slice (some ⟨B.heap.size, 0, none⟩) x.held.length x.held.length) 34 (0, 0) rfl (new_here X _) HUY.out HPL.out HBY.out _ rfl ?_; intro g cp w8 h8 hg8 hnb8 heq8 hlt8; have hZ := Lib.hid (scan_app (vn := .slice (some ⟨g, 0, none⟩) ((heldL (pre.map Rc.pair)).length + 1) cp) HI.out HV.out HO.out HX.out HF.out hg8); have z1 := hZ.out.1; have z2 := hZ.out.2.1; have z3 := hZ.out.2.2.1; have z4 := hZ.out.2.2.2.1; have z5 := hZ.out.2.2.2.2.1; have z6 := hZ.out.2.2.2.2.2; have hDN := Lib.hid (scan_done HI.out HV.out HO.out (HX.out.alloc HX.out.size _) hg8 h8 (IntKind.i64.wrap ((x.pos : Int) + ((x.held.length : Int) + 8))) HZ.out); clear hZ h8 hg8 hnb8 heq8 hlt8) | go_simp); refine hK _ _ ?_; clear hK K))
      | (refine wpAny_ready (rs := [0]) (by decide +kernel) (by simp) (AllReady.cons rfl (fun K hK => ?_) AllReady.nil) <;> ((first | (refine step_appR (el_own _) rfl (.tmp 21) (.tmp 23) rfl w.heap.size v (heldL (pre.map Rc.pair)) rfl HOY.out X.heap.size x.held (.slice (some ⟨B.heap.size, 0, none⟩) x.held.length x.held.length) 34 (0, 0) rfl (new_here X _) HUY.out HPL.out HBY.out _ rfl ?_; intro g cp w8 h8 hg8 hnb8 heq8 hlt8; have hZ := Lib.hid (scan_app (vn := .slice (some ⟨g, 0, none⟩) ((heldL (pre.map Rc.pair)).length + 1) cp) HI.out HV.out HO.out HX.out HF.out hg8); have z1 := hZ.out.1; have z2 := hZ.out.2.1; have z3 := hZ.out.2.2.1; have z4 := hZ.out.2.2.2.1; have z5 := hZ.out.2.2.2.2.1; have z6 := hZ.out.2.2.2.2.2; have hDN := Lib.hid (scan_done HI.out HV.out HO.out (HX.out.alloc HX.out.size _) hg8 h8 (IntKind.i64.wrap ((x.pos : Int) + ((x.held.length : Int) + 8))) HZ.out); clear hZ h8 hg8 hnb8 heq8 hlt8) | go_simp); refine hK _ _ ?_; clear hK K))
      | (refine wpAny_ready (rs := [2]) (by decide +kernel) (by simp) (AllReady.cons rfl (fun K hK => ?_) AllReady.nil) <;> ((first | (refine step_appR (el_own _) rfl (.tmp 21) (.tmp 23) rfl w.heap.size v (heldL (pre.map Rc.pair)) rfl HOY.out X.heap.size x.held (.slice (some ⟨B.heap.size, 0, none⟩) x.held.length x.held.length) 34 (0, 0) rfl (new_here X _) HUY.out HPL.out HBY.out _ rfl ?_; intro g cp w8 h8 hg8 hnb8 heq8 hlt8; have hZ := Lib.hid (scan_app (vn := .slice (some ⟨g, 0, none⟩) ((heldL (pre.map Rc.pair)).length + 1) cp) HI.out HV.out HO.out HX.out HF.out hg8); have z1 := hZ.out.1; have z2 := hZ.out.2.1; have z3 := hZ.out.2.2.1; have z4 := hZ.out.2.2.2.1; have z5 := hZ.out.2.2.2.2.1; have z6 := hZ.out.2.2.2.2.2; have hDN := Lib.hid (scan_done HI.out HV.out HO.out (HX.out.alloc HX.out.size _) hg8 h8 (IntKind.i64.wrap ((x.pos : Int) + ((x.held.length : Int) + 8))) HZ.out); clear hZ h8 hg8 hnb8 heq8 hlt8) | go_simp); refine hK _ _ ?_; clear hK K))
      | (refine wpAny_ready (rs := [6]) (by decide +kernel) (by simp) (AllReady.cons rfl (fun K hK => ?_) AllReady.nil) <;> ((first | (refine step_appR (el_own _) rfl (.tmp 21) (.tmp 23) rfl w.heap.size v (heldL (pre.map Rc.pair)) rfl HOY.out X.heap.size x.held (.slice (some ⟨B.heap.size, 0, none⟩) x.held.length x.held.length) 34 (0, 0) rfl (new_here X _) HUY.out HPL.out HBY.out _ rfl ?_; intro g cp w8 h8 hg8 hnb8 heq8 hlt8; have hZ := Lib.hid (scan_app (vn := .slice (some ⟨g, 0, none⟩) ((heldL (pre.map Rc.pair)).length + 1) cp) HI.out HV.out HO.out HX.out HF.out hg8); have z1 := hZ.out.1; have z2 := hZ.out.2.1; have z3 := hZ.out.2.2.1; have z4 := hZ.out.2.2.2.1; have z5 := hZ.out.2.2.2.2.1; have z6 := hZ.out.2.2.2.2.2; have hDN := Lib.hid (scan_done HI.out HV.out HO.out (HX.out.alloc HX.out.size _) hg8 h8 (IntKind.i64.wrap ((x.pos : Int) + ((x.held.length : Int) + 8))) HZ.out); clear hZ h8 hg8 hnb8 heq8 hlt8) | go_simp); refine hK _ _ ?_; clear hK K))
      | (refine wpAny_ready (rs := [8,6]) (by decide +kernel) (by simp) (AllReady.cons rfl (fun K hK => ?_) (AllReady.cons rfl (fun K hK => ?_) AllReady.nil)) <;> ((first | (refine step_appR (el_own _) rfl (.tmp 21) (.tmp 23) rfl w.heap.size v (heldL (pre.map Rc.pair)) rfl HOY.out X.heap.size x.held (.slice (some ⟨B.heap.size, 0, none⟩) x.held.length x.held.length) 34 (0, 0) rfl (new_here X _) HUY.out HPL.out HBY.out _ rfl ?_; intro g cp w8 h8 hg8 hnb8 heq8 hlt8; have hZ := Lib.hid (scan_app (vn := .slice (some ⟨g, 0, none⟩) ((heldL (pre.map Rc.pair)).length + 1) cp) HI.out HV.out HO.out HX.out HF.out hg8); have z1 := hZ.out.1; have z2 := hZ.out.2.1; have z3 := hZ.out.2.2.1; have z4 := hZ.out.2.2.2.1; have z5 := hZ.out.2.2.2.2.1; have z6 := hZ.out.2.2.2.2.2; have hDN := Lib.hid (scan_done HI.out HV.out HO.out (HX.out.alloc HX.out.size _) hg8 h8 (IntKind.i64.wrap ((x.pos : Int) + ((x.held.length : Int) + 8))) HZ.out); clear hZ h8 hg8 hnb8 heq8 hlt8) | go_simp); refine hK _ _ ?_; clear hK K))
      | (refine wpAny_ready (rs := [6,8]) (by decide +kernel) (by simp) (AllReady.cons rfl (fun K hK => ?_) (AllReady.cons rfl (fun K hK => ?_) AllReady.nil)) <;> ((first | (refine step_appR (el_own _) rfl (.tmp 21) (.tmp 23) rfl w.heap.size v (heldL (pre.map Rc.pair)) rfl HOY.out X.heap.size x.held (.slice (some ⟨B.heap.size, 0, none⟩) x.held.length x.held.length) 34 (0, 0) rfl (new_here X _) HUY.out HPL.out HBY.out _ rfl ?_; intro g cp w8 h8 hg8 hnb8 heq8 hlt8; have hZ := Lib.hid (scan_app (vn := .slice (some ⟨g, 0, none⟩) ((heldL (pre.map Rc.pair)).length + 1) cp) HI.out HV.out HO.out HX.out HF.out hg8); have z1 := hZ.out.1; have z2 := hZ.out.2.1; have z3 := hZ.out.2.2.1; have z4 := hZ.out.2.2.2.1; have z5 := hZ.out.2.2.2.2.1; have z6 := hZ.out.2.2.2.2.2; have hDN := Lib.hid (scan_done HI.out HV.out HO.out (HX.out.alloc HX.out.size _) hg8 h8 (IntKind.i64.wrap ((x.pos : Int) + ((x.held.length : Int) + 8))) HZ.out); clear hZ h8 hg8 hnb8 heq8 hlt8) | go_simp); refine hK _ _ ?_; clear hK K))
      | (refine wpAny_ready (rs := [8]) (by decide +kernel) (by simp) (AllReady.cons rfl (fun K hK => ?_) AllReady.nil) <;> ((first | (refine step_appR (el_own _) rfl (.tmp 21) (.tmp 23) rfl w.heap.size v (heldL (pre.map Rc.pair)) rfl HOY.out X.heap.size x.held (.slice (some ⟨B.heap.size, 0, none⟩) x.held.length x.held.length) 34 (0, 0) rfl (new_here X _) HUY.out HPL.out HBY.out _ rfl ?_; intro g cp w8 h8 hg8 hnb8 heq8 hlt8; have hZ := Lib.hid (scan_app (vn := .slice (some ⟨g, 0, none⟩) ((heldL (pre.map Rc.pair)).length + 1) cp) HI.out HV.out HO.out HX.out HF.out hg8); have z1 := hZ.out.1; have z2 := hZ.out.2.1; have z3 := hZ.out.2.2.1; have z4 := hZ.out.2.2.2.1; have z5 := hZ.out.2.2.2.2.1; have z6 := hZ.out.2.2.2.2.2; have hDN := Lib.hid (scan_done HI.out HV.out HO.out (HX.out.alloc HX.out.size _) hg8 h8 (IntKind.i64.wrap ((x.pos : Int) + ((x.held.length : Int) + 8))) HZ.out); clear hZ h8 hg8 hnb8 heq8 hlt8) | go_simp); refine hK _ _ ?_; clear hK K))
      | (refine wpAny_ready (rs := [9]) (by decide +kernel) (by simp) (AllReady.cons rfl (fun K hK => ?_) AllReady.nil) <;> ((first | (refine step_appR (el_own _) rfl (.tmp 21) (.tmp 23) rfl w.heap.size v (heldL (pre.map Rc.pair)) rfl HOY.out X.heap.size x.held (.slice (some ⟨B.heap.size, 0, none⟩) x.held.length x.held.length) 34 (0, 0) rfl (new_here X _) HUY.out HPL.out HBY.out _ rfl ?_; intro g cp w8 h8 hg8 hnb8 heq8 hlt8; have hZ := Lib.hid (scan_app (vn := .slice (some ⟨g, 0, none⟩) ((heldL (pre.map Rc.pair)).length + 1) cp) HI.out HV.out HO.out HX.out HF.out hg8); have z1 := hZ.out.1; have z2 := hZ.out.2.1; have z3 := hZ.out.2.2.1; have z4 := hZ.out.2.2.2.1; have z5 := hZ.out.2.2.2.2.1; have z6 := hZ.out.2.2.2.2.2; have hDN := Lib.hid (scan_done HI.out HV.out HO.out (HX.out.alloc HX.out.size _) hg8 h8 (IntKind.i64.wrap ((x.pos : Int) + ((x.held.length : Int) + 8))) HZ.out); clear hZ h8 hg8 hnb8 heq8 hlt8) | go_simp); refine hK _ _ ?_; clear hK K)))))
    all_goals (refine wpAny_done (by decide +kernel) ?_ _)
    all_goals (exact hDN.out)
  · intro D xs W hD hxs hI hd
    obtain ⟨v', hv, ho⟩ := hI.out
    have hsz := hI.sz
    rw [hxs] at ho hsz
    have HI := Lib.hid hI
    have HO := Lib.hid ho
    have HD := Lib.hid hd
    have c0 : W.cell? ⟨w.heap.size, 0, none⟩ = some v' := cell_of_heap hv
    have c1 : W.cell? ⟨w.heap.size + 1, 0, none⟩ = some (.int .i64 (endL (recAt bs 0) : Int)) := cell_of_heap hsz
    clear hI ho hv hsz hd
    gi_wp2
    refine (wpIn_wide (n := n)).2 ?_
    go_region
    go_wp2
    gi_wp2
    refine ⟨by simp, .inl ⟨_, _, rfl, run_takeDeferred (w := W.drew) HD.out, ?_⟩⟩
    refine ⟨.tuple #[v', .int .i64 (endL (recAt bs 0) : Int)], by simp [results, Try.results46, go_sem], v', rfl, ?_, ?_⟩
    · refine (HO.out.below (el_own _) (Below.refl _ W).drew).keptX (grownBy_putObj' W.drew D _) (fun r e c f => ?_)
      cases e
      have h : W.drew.heap[D]? = some (.deferred (some [])) := HD.out
      rw [h]
      exact ⟨fun h => (by cases h), fun h => (by cases h)⟩
    · exact HI.out.below.drew.trans (belowK_b (w := w) (Nat.le_refl _) W.drew D _ _ (by have := hb3.size; omega) HD.out rfl rfl)
end Go.Proofs.Ytnhmhnejglpijaa
