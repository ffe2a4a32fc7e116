/- Sums of rows. -/
import Derived.Test.YtekbjgnlaompbaaCe
import Derived.Laws.EntriesVeiled
namespace Go.Proofs.Ytekbjgnlaompbaa
open Go.RowKit Go.Shelf
attribute [local go_sem] Oper.semAt_some
def feedAll (x : W32) (l : List B8) : W32 := l.foldl feedByte x
theorem feedAll_snoc (x : W32) (l : List B8) (b : B8) : feedAll x (l ++ [b]) = feedByte (feedAll x l) b := by simp [feedAll]
/-- What holds between two rounds. -/
def MoreI (w0 : World) (x : W32) (pre : List B8) (W : World) : Prop :=
  RegAt W (w0.heap.size + 1) w0.heap.size (feedAll x pre) ∧ TabAt W w0.heap.size ∧
    W.heap[w0.heap.size + 2]? = some (.cells #[.func (.func 35) #[.pointer (some ⟨w0.heap.size + 1, 0, none⟩)] #[]] 78 (0, 0)) ∧ Below w0.heap.size w0 W
theorem MoreI.own (w0 : World) (x : W32) (B : Nat) (hB : w0.heap.size + 2 < B) : OwnFrom B (MoreI w0 x) := by
  intro s W W' row ⟨h1, h2, h3, h4⟩ hg hr
  have hk : ∀ i, i < B → i < W.heap.size → W'.heap[i]? = W.heap[i]? := fun i hi hs => hg.block i hs (fun e => by have := (hr i e.symm).1; omega)
  have l1 := lt_of_heap h1
  have l2 := h2.lt
  have l3 := lt_of_heap h3
  refine ⟨?_, ?_, ?_, h4.grown hg h4.size (fun k e => by have := (hr k e).1; omega)⟩
  · unfold RegAt at *; rw [hk _ (by omega) l1]; exact h1
  · unfold TabAt at *; rw [hk _ (by omega) l2]; exact h2
  · rw [hk _ (by omega) l3]; exact h3
theorem KeepsOthers.of_mod {L : List Nat} {W W' : World} (h : Mod L W W') (hL : ∀ i, i ∈ L → ∃ c t f, W.heap[i]? = some (.cells c t f)) : KeepsOthers W W' :=
  ⟨h.size, fun k o hk ho => by
    refine (h.block k (Array.getElem?_eq_some_iff.1 hk).1 (fun hm => ?_)).trans hk
    obtain ⟨c, t, f, e⟩ := hL k hm
    rw [hk] at e
    cases e
    cases ho⟩
theorem not_nb (x : W32) : bits .xor .u32 IntKind.u32.max (nb x) = nb (~~~x) := by
  have h : IntKind.u32.max = nb (BitVec.allOnes 32) := by decide
  rw [h, bits_xor, BitVec.allOnes_xor]
theorem new_here (w : World) (o : Obj) : (w.alloc o).heap[w.heap.size]? = some o := World.alloc_heap_new w o
theorem new_next (w : World) (o : Obj) {k : Nat} {x : Obj} (h : w.heap[k]? = some x) : (w.alloc o).heap[k]? = some x := (Below.heap_alloc _ _ _ (lt_of_heap h)).trans h
theorem new_four (w : World) (o0 o1 o2 o3 : Obj) : ((((w.alloc o0).alloc o1).alloc o2).alloc o3).heap[w.heap.size]? = some o0 ∧ ((((w.alloc o0).alloc o1).alloc o2).alloc o3).heap[w.heap.size + 1]? = some o1 ∧
    ((((w.alloc o0).alloc o1).alloc o2).alloc o3).heap[w.heap.size + 2]? = some o2 ∧ ((((w.alloc o0).alloc o1).alloc o2).alloc o3).heap[w.heap.size + 3]? = some o3 := by
  have h0 := new_here w o0
  have h1 : ((w.alloc o0).alloc o1).heap[w.heap.size + 1]? = some o1 := by have := new_here (w.alloc o0) o1; rwa [World.size_alloc] at this
  have h2 : (((w.alloc o0).alloc o1).alloc o2).heap[w.heap.size + 2]? = some o2 := by have := new_here ((w.alloc o0).alloc o1) o2; rwa [World.size_alloc, World.size_alloc] at this
  have h3 : ((((w.alloc o0).alloc o1).alloc o2).alloc o3).heap[w.heap.size + 3]? = some o3 := by have := new_here (((w.alloc o0).alloc o1).alloc o2) o3; rwa [World.size_alloc, World.size_alloc, World.size_alloc] at this
  exact ⟨new_next _ _ (new_next _ _ (new_next _ _ h0)), new_next _ _ (new_next _ _ h1), new_next _ _ h2, h3⟩
theorem u32_signed : IntKind.u32.signed = false := rfl
section
attribute [local go_sem] not_nb u32_signed
set_option maxRecDepth 100000 in
set_option maxHeartbeats 400000 in
theorem more_in (n : Nat) (hn : 3 ≤ n) (sum : W32) (rv : Value) (rows : List (List B8)) (w : World) (hR : Rws w rv rows) :
    CallsIn Fence.wide n Try.prog 34 #[.int .u32 (nb sum), rv] w fun e w' => e = .returned (.int .u32 (nb (~~~ (feedAll (~~~ sum) rows.flatten)))) ∧ Below w.heap.size w w' := by
  have hR' := hR
  obtain ⟨A, cap, rfl, hlen, hrow⟩ := hR'
  have HR := Lib.hid hR
  clear hrow hR
  have h1 : 1 ≤ n := by omega
  have hmf : ∀ (fn : Fn) (first cap : Array Value) (w : World), (Instr.makeFunc fn first cap).run Try.prog w = .ok (.func fn first cap) w := fun _ _ _ _ => rfl
  refine callsIn_of_wp_marks Try.func34 rfl trivial ?_ rfl
  simp only [Try.ntmps34, List.size_toArray, List.length_cons, List.length_nil, Nat.reduceAdd, Nat.reduceSub, Array.replicate_succ, Array.replicate_zero, List.push_toArray, List.append_toArray, List.nil_append, List.cons_append]
  gi_wp2_with fail
  refine ⟨trivial, ?_⟩
  refine (callsIn_wide.2 (of_calls _ _)).mono ?_
  rintro e w' ⟨rfl, rfl⟩
  gi_wp2_with (refine ⟨trivial, ?_⟩; gi_at_call 38; refine (each_calls _ _ _ _ _).mono ?_; rintro e w' ⟨rfl, rfl⟩)
  have e0 : w.heap.size + 1 + 1 = w.heap.size + 2 := rfl
  obtain ⟨WB, hWB⟩ : ∃ WB, ((((w.alloc (.cells (tabCells 0 0 0) 74)).alloc (.cells (regCells w.heap.size (~~~sum)) 77)).alloc (.cells #[.func (.func 35) #[.pointer (some ⟨w.heap.size + 1, 0, none⟩)] #[]] 78)).alloc (.cells #[.slice A rows.length cap] 43)) = WB := ⟨_, rfl⟩
  rw [hWB]
  have hsz : WB.heap.size = w.heap.size + 4 := by rw [← hWB]; simp
  have hbw : Below w.heap.size w WB := by rw [← hWB]; exact ((((Below.refl _ w).alloc (Nat.le_refl _) _).alloc (by simp) _).alloc (by simp; omega) _).alloc (by simp; omega) _
  obtain ⟨g0, g1, g2, g3⟩ := new_four w (.cells (tabCells 0 0 0) 74) (.cells (regCells w.heap.size (~~~sum)) 77) (.cells #[.func (.func 35) #[.pointer (some ⟨w.heap.size + 1, 0, none⟩)] #[]] 78) (.cells #[.slice A rows.length cap] 43)
  rw [hWB] at g0 g1 g2 g3
  have hI0 : MoreI w (~~~sum) [] WB := ⟨g1, .inl g0, g2, hbw⟩
  have hbox : WB.cell? ⟨w.heap.size + 3, 0, none⟩ = some (.slice A rows.length cap) := cell_of_heap g3
  clear g0 g1 g2 g3
  clear hWB
  have hseq := each_stops (n - 1) (by omega) (w.heap.size + 3) w.heap.size _ rows w WB rfl HR.out hbw hbox
  refine wpIn_rangeFunc_ownF rfl h1 (gf := 40) (lb := #[.pointer (some ⟨w.heap.size + 3, 0, none⟩)]) rfl trivial (enters_of Try.func40 (by kernel_rfl) rfl)
    hseq belowK_t (belowK_b (by omega)) (Below.refl _ _) (fun _ => rfl) (MoreI w (~~~sum)) (fun _ _ _ => False) (MoreI.own w _ _ (by omega)) (fun _ _ _ _ _ h _ _ => h) hI0
    (fun x => { tmps := #[.int .u32 (nb sum), .slice A rows.length cap, undef, undef, .int .u32 0, .pointer (some ⟨w.heap.size + 1, 0, none⟩), .pointer (some ⟨w.heap.size + 1 + 1, 0, none⟩), .int .u8 (bn x), .int .u32 (nb sum), .int .u32 (nb (~~~sum)),
        .pointer (some ⟨w.heap.size + 1, 0, none⟩), .pointer (some ⟨w.heap.size + 1, 0, none⟩), .func (.func 35) #[.pointer (some ⟨w.heap.size + 1, 0, none⟩)] #[], .slice A rows.length cap, .func (.func 40) #[] #[.pointer (some ⟨w.heap.size + 3, 0, none⟩)], .int .u8 (bn x), undef, undef, undef, undef, undef, undef, undef, undef], defers := [] }) ?assign ?body ?done ?stop
  case assign =>
    intro l x W K hK
    gi_wp2
    exact hK
  case body =>
    rintro l pre x W ⟨h1, h2, h3, h4⟩ _
    have hl := h2.lt
    have hc := cell_of_heap (k := 0) h3
    have hc' : W.cell? ⟨w.heap.size + 1 + 1, 0, none⟩ = some (.func (.func 35) #[.pointer (some ⟨w.heap.size + 1, 0, none⟩)] #[]) := hc
    have hd : 1 ≤ n - 1 - 1 := by omega
    have H1 := Lib.hid h1
    have H2 := Lib.hid h2
    have H3 := Lib.hid h3
    clear h1 h2 h3 hc
    gi_wp2_with (refine ⟨trivial, ?_⟩; gi_at_call 35; refine (CallsIn.inRound l (callsIn_wide.2 (feed_calls (w.heap.size + 1) w.heap.size (by omega) _ x _ H1.out H2.out))).mono ?_; rintro e w' ⟨rfl, hm, hr1, ht1⟩)
    have hl3 := lt_of_heap H3.out
    have hb := hm.below (B := w.heap.size) (by intro i hi; simp at hi; omega) (by omega)
    have h3' : w'.heap[w.heap.size + 2]? = some (.cells #[.func (.func 35) #[.pointer (some ⟨w.heap.size + 1, 0, none⟩)] #[]] 78 (0, 0)) := (hm.block _ hl3 (by simp)).trans H3.out
    refine ⟨KeepsOthers.of_mod hm ?_, hb, ?_, ht1, h3', h4.trans hb⟩
    · intro i hi
      simp only [List.mem_cons, List.not_mem_nil, or_false] at hi
      rcases hi with rfl | rfl
      · exact ⟨_, _, _, H1.out⟩
      · rcases H2.out with h | h <;> exact ⟨_, _, _, h⟩
    · rw [feedAll_snoc]
      exact hr1
  case done =>
    rintro D xs W hD rfl ⟨h1, h2, h3, h4⟩ hK
    have c1 := h1.c1
    gi_wp2
    refine ⟨by simp, .inl ⟨_, _, rfl, run_takeDeferred hK, ?_⟩⟩
    exact ⟨_, results_tmp rfl _ _ _, rfl, h4.trans (belowK_b (w := w) (Nat.le_refl _) W D _ _ (by omega) hK rfl rfl)⟩
  case stop =>
    rintro D c pre W _ _ h _
    exact h.elim
end
/-- the sum of rows, and what is behind a sum -/
def moreW (sum : W32) (l : List B8) : W32 := ~~~ (feedAll (~~~ sum) l)
theorem more_calls (sum : W32) (rv : Value) (rows : List (List B8)) (w : World) (hR : Rws w rv rows) :
    Calls Try.prog 34 #[.int .u32 (nb sum), rv] w fun e w' => e = .returned (.int .u32 (nb (moreW sum rows.flatten))) ∧ Below w.heap.size w w' :=
  (callsIn_wide (n := 3)).1 (more_in 3 (by omega) sum rv rows w hR)
end Go.Proofs.Ytekbjgnlaompbaa
