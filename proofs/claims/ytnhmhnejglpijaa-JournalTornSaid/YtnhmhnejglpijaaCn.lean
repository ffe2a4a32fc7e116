/- Four bytes of a word; the tail. few; sealed bytes. Opened bytes. Spoilt bytes. Spoilt bytes: the walk. -/
import Derived.Test.YtnhmhnejglpijaaCh
import Derived.Deep.AppendLies
import Derived.Deep.DeepMust
import Derived.Deep.RegionLaw
import Derived.Deep.DeepCutAuto
import Derived.Deep.CutBlock
namespace Go.Proofs.Ytnhmhnejglpijaa
open Go.RowKit
def byt0 (x : W32) : B8 := x.setWidth 8
def byt1 (x : W32) : B8 := (x >>> 8).setWidth 8
def byt2 (x : W32) : B8 := (x >>> 16).setWidth 8
def byt3 (x : W32) : B8 := (x >>> 24).setWidth 8
def fourB (x : W32) : List B8 := [byt0 x, byt1 x, byt2 x, byt3 x]
def fourV (x : W32) : Value := .agg #[.int .u8 (bn (byt0 x)), .int .u8 (bn (byt1 x)), .int .u8 (bn (byt2 x)), .int .u8 (bn (byt3 x))]
theorem nb_mod (x : W32) : nb x % (256 : Int) = bn (x.setWidth 8) := by unfold nb bn; rw [BitVec.toNat_setWidth]; omega
theorem shr8_nb (x : W32) : nb x / (256 : Int) = nb (x >>> 8) := shr_nb x 8 256 rfl
theorem shr16_nb (x : W32) : nb x / (65536 : Int) = nb (x >>> 16) := shr_nb x 16 65536 rfl
theorem shr24_nb (x : W32) : nb x / (16777216 : Int) = nb (x >>> 24) := shr_nb x 24 16777216 rfl
theorem shr31_nb (x : W32) : nb x / (2147483648 : Int) = nb (x >>> 31) := shr_nb x 31 2147483648 rfl
section
attribute [local go_sem] nb_mod shr8_nb shr16_nb shr24_nb
theorem four_calls (x : W32) (w : World) : Calls Try.prog 95 #[.int .u32 (nb x)] w fun e w' => e = .returned (fourV x) ∧ Below w.heap.size w w' := by
  have h0 := (nb_range x).1
  go_enter Try.func95, Try.ntmps95
  go_wp2
  exact bodyPost_ret (v := fourV x) (by simp [results, Try.results95, go_sem, fourV, byt0, byt1, byt2, byt3]) rfl ⟨rfl, (Below.refl _ w).alloc (Nat.le_refl _) _⟩
end
/-- four fresh bytes, behind what keeps them -/
theorem fresh_four {w w2 : World} (hb : Below (w.alloc (.cells #[.int .u8 0, .int .u8 0, .int .u8 0, .int .u8 0] 130)).heap.size (w.alloc (.cells #[.int .u8 0, .int .u8 0, .int .u8 0, .int .u8 0] 130)) w2) :
    w2.cell? ⟨w.heap.size, 0, none⟩ = some (.int .u8 0) ∧ w2.cell? ⟨w.heap.size, 1, none⟩ = some (.int .u8 0) ∧ w2.cell? ⟨w.heap.size, 2, none⟩ = some (.int .u8 0) ∧ w2.cell? ⟨w.heap.size, 3, none⟩ = some (.int .u8 0) ∧ ∀ k, w2.frozen? ⟨w.heap.size, k, none⟩ = false := by
  have h : w2.heap[w.heap.size]? = some (.cells #[.int .u8 0, .int .u8 0, .int .u8 0, .int .u8 0] 130) := (hb.block _ (by simp)).trans (new_here w _)
  exact ⟨cell_of_heap h, cell_of_heap h, cell_of_heap h, cell_of_heap h, fun k => free_of_heap h⟩
def unfed (r : W32) : W32 := if r >>> 31 = 1#32 then ((r ^^^ poly) <<< 1) ||| 1#32 else r <<< 1
def unfedN : Nat → W32 → W32
  | 0, r => r
  | n + 1, r => unfed (unfedN n r)
def tailW (sum want : W32) : W32 := unfedN 32 (~~~want) ^^^ ~~~sum
theorem shl1_nb (x : W32) : nb x * (2 : Int) % (4294967296 : Int) = nb (x <<< 1) := by
  unfold nb
  rw [BitVec.toNat_shiftLeft, Nat.shiftLeft_eq]
  omega
theorem or_1 (x : W32) : bits .or .u32 (nb x) (1 : Int) = nb (x ||| 1#32) := bits_or x 1#32
end Go.Proofs.Ytnhmhnejglpijaa
namespace Go.Proofs.Ytnhmhnejglpijaa
open Go.RowKit
theorem Bys.take {w : World} {A : Option Addr} {n cap : Nat} {bs : List B8} (h : Bys w (.slice A n cap) bs) (m : Nat) (hm : m ≤ n) : Bys w (.slice A m cap) (bs.take m) := by
  obtain ⟨A', cap', e, h1, h2, h3, h4⟩ := h
  cases e
  have hl : (bs.take m).length = m := by simp; omega
  refine ⟨A, cap, by rw [hl], by omega, h2, h3, fun hp => ?_⟩
  obtain ⟨b, off, e, hc⟩ := h4 (by omega)
  refine ⟨b, off, e, fun j hj => ?_⟩
  rw [hl] at hj
  rw [hc j (by omega)]
  simp [byteAt, List.getD_eq_getElem?_getD, List.getElem?_take, hj]
/-- zero bytes -/
def zb (n : Nat) : Array Value := (bvals (List.replicate n 0#8)).toArray
set_option maxRecDepth 100000 in
theorem run_make8 (w : World) (l c : Nat) (hlc : l ≤ c) (hc : c ≤ 140737488355328) :
    (Instr.makeSlice 34 (.int .i64 l) (.int .i64 c)).run Try.prog w = .ok (.slice (some ⟨w.heap.size, 0, none⟩) l c) (w.alloc (.cells (zb c) 5)) := by
  obtain ⟨i0, hi, hz0, hz1, hz2⟩ := info_parts Try.info5
  have := run_make (P := Try.prog) w 34 5 i0 _ Try.underlying34 hi hz0 .i64 .i64 l c (by omega) (by omega) (by rw [hz2]; omega) (by omega)
  rw [this, hz1, Nat.mul_one, Int.toNat_natCast, Int.toNat_natCast]
  congr 4
  rw [← Array.toList_inj]
  exact madeCells_bytes c
theorem own8_of_heap {w : World} {B g n cap : Nat} {cur : List Value} {bs : List B8} (hB : B ≤ g) (h : w.heap[g]? = some (.cells cur.toArray 5 (0, 0))) (hc : cur.length = cap) (hn : bs.length = n) (hnc : n ≤ cap) (hm : cap ≤ maxLen) (ht : cur.take n = bvals bs) :
    Own8 w B (.slice (some ⟨g, 0, none⟩) n cap) bs := by
  refine ⟨by simp [bvals_length], .inr ⟨g, cap, cur.toArray, by rw [hn], hB, h, by omega, hm, by simpa using hc, ?_⟩⟩
  rw [hn, Nat.mul_one]
  exact ht
theorem bys_of_heap {w : World} {a t : Nat} {bs : List B8} (h : w.heap[a]? = some (.cells (bvals bs).toArray t (0, 0))) (hm : bs.length ≤ maxLen) : Bys w (.slice (some ⟨a, 0, none⟩) bs.length bs.length) bs := by
  refine ⟨_, _, rfl, Nat.le_refl _, hm, (fun h => by cases h), fun _ => ⟨a, 0, rfl, fun j hj => ?_⟩⟩
  rw [Nat.zero_add, cell_of_heap h, List.getElem?_toArray, bvals_get bs j hj]
theorem fourV_cells (x : W32) : fourV x = .agg (bvals (fourB x)).toArray := rfl
/-- sealed bytes -/
def sealW (bs : List B8) : List B8 := bs ++ fourB (moreW 0 bs)
theorem splice_front (bs : List B8) (m : Nat) : splice (bvals (List.replicate (bs.length + m) 0#8)) 0 (bvals bs) = bvals (bs ++ List.replicate m 0#8) := by
  simp only [splice, List.take_zero, List.nil_append, Nat.zero_add, bvals_length, bvals_append]
  congr 1
  simp [bvals]
set_option maxRecDepth 100000 in
theorem seal_calls (v : Value) (bs : List B8) (w : World) (hb : Bys w v bs) (hl : bs.length ≤ 1099511627776) :
    Calls Try.prog 55 #[v] w fun e w' => ∃ v', e = .returned v' ∧ Own8 w' w.heap.size v' (sealW bs) ∧ Below w.heap.size w w' := by
  have hb' := hb
  obtain ⟨A, cap, rfl, hc1, hc2, hc3, hc4⟩ := hb'
  have HB := Lib.hid hb
  clear hb hc3 hc4
  unfold maxLen at hc2
  have hmk : ∀ w, (Instr.makeSlice 34 (.int .i64 bs.length) (.int .i64 ((bs.length : Int) + 4))).run Try.prog w = .ok (.slice (some ⟨w.heap.size, 0, none⟩) bs.length (bs.length + 4)) (w.alloc (.cells (zb (bs.length + 4)) 5)) := fun w => run_make8 w bs.length (bs.length + 4) (by omega) (by omega)
  go_enter Try.func55, Try.ntmps55
  go_wp2_with (first
    | (go_at_call 96; refine (sum1_calls _ bs w _ rfl HB.out).mono ?_; rintro e w2 ⟨rfl, h2⟩)
    | (go_at_call 95; refine (four_calls _ _).mono ?_; rintro e w3 ⟨rfl, h3⟩; simp only [fourV])
    | (refine wpList_copy_splice rfl (.tmp 15) (.tmp 16) 34 34 rfl 5 Try.underlying34 (by kernel_rfl) _ _ _ _ _ _ rfl rfl (w3.heap.size + 1) 0 (bvals (List.replicate (bs.length + 4) 0#8)) 5 ?hg (bvals bs) ?hn ?hpos ?hfit (bvals_one bs) (w3.heap.size + 1) _ (Below.refl _ _) (Nat.le_refl _) ?_; rotate_left 4; intro w6 hg6 hb6)
    | (at_builtin; refine wpList_app8 rfl (.tmp 18) (.tmp 19) rfl w.heap.size _ _ bs (fourB (moreW 0 bs)) rfl ?ha rfl ?hx ?hl ?hbase ?_; rotate_left 4; intro v' w7 h7 h8 _))
  case hg => exact heap_alloc2_new w3 _ _
  case hn => simp [bvals_length]
  case hfit => simp [bvals_length]
  case hpos =>
    intro hp
    have hbw : Bys ((w3.alloc (.cells (bvals (fourB (moreW 0 bs))).toArray 130)).alloc (.cells (zb (bs.length + 4)) 5)) (.slice A bs.length cap) bs := by
      refine HB.out.below ?_
      exact ((((((Below.refl _ w).alloc (Nat.le_refl _) _).trans (h2.mono (by simp))).trans (h3.mono (by have := h2.size; simp at this; omega))).alloc (by have := h2.size; have := h3.size; simp at *; omega) _).alloc (by have := h2.size; have := h3.size; simp at *; omega) _)
    obtain ⟨A', cap', e, _, _, _, h4⟩ := hbw
    cases e
    rw [bvals_length] at hp
    obtain ⟨b, off, e, hc⟩ := h4 hp
    refine ⟨_, e, fun j u hu => ?_⟩
    obtain ⟨hj, rfl⟩ := bvals_get' hu
    rw [add_off]
    exact hc j hj
  case ha =>
    refine own8_of_heap (cur := bvals (bs ++ List.replicate 4 0#8)) (by have := h2.size; have := h3.size; simp at *; omega) ?_ (by simp [bvals_length]) rfl (by omega) (by simp [maxLen]; omega) (by rw [bvals_append]; exact List.take_left' (bvals_length bs))
    rw [← splice_front bs 4]
    exact hg6
  case hx =>
    refine bys_of_heap (bs := fourB (moreW 0 bs)) (t := 130) ?_ (by simp [fourB, maxLen])
    exact (hb6.block _ (by omega)).trans (heap_alloc2_old w3 _ _)
  case hl => simp [fourB]; omega
  case hbase => have := h2.size; have := h3.size; have := hb6.size; simp at *; omega
  go_ret
  refine ⟨_, rfl, h7, ?_⟩
  have hs2 := h2.size
  have hs3 := h3.size
  have hs6 := hb6.size
  simp at hs2 hs6
  have hA : Below w.heap.size w (w3.alloc (.cells (bvals (fourB (moreW 0 bs))).toArray 130)) :=
    (((((Below.refl _ w).alloc (Nat.le_refl _) _).trans (h2.mono (by simp))).trans (h3.mono (by omega))).alloc (by omega) _)
  have hB : Below w.heap.size w w6 := (hA.alloc (by simp; omega) (.cells (zb (bs.length + 4)) 5)).trans (hb6.mono (by omega))
  exact hB.grown h8 (by omega) (fun k e => by have : w3.heap.size + 1 = k := by simpa [Act.eval, Value.ownBlock] using e
                                              omega)
end Go.Proofs.Ytnhmhnejglpijaa
namespace Go.Proofs.Ytnhmhnejglpijaa
open Go.RowKit
theorem sum_any (a : Nat) (v : Value) (bs : List B8) (S : W32) (hS : moreW 0 bs = S) (W : World) (hW : W.heap[a]? = some (.cells #[v] 34 (0, 0))) (hb : Bys W v bs) :
    Calls Try.prog 96 #[.slice (some ⟨a, 0, none⟩) 1 1] W fun e w' => e = .returned (.int .u32 (nb S)) ∧ Below W.heap.size W w' := by
  subst hS
  have hR : Rws W (.slice (some ⟨a, 0, none⟩) 1 1) [bs] := by
    refine ⟨_, 1, rfl, by simp, fun _ => ⟨_, _, rfl, fun j hj => ?_⟩⟩
    obtain rfl : j = 0 := by simpa using hj
    exact ⟨v, cell_of_heap hW, hb⟩
  have := sum_calls _ _ _ _ _ hR
  simpa using this
theorem bcell {W w1 : World} (hb : Below W.heap.size W w1) : (∀ b o, b < W.heap.size → w1.cell? ⟨b, o, none⟩ = W.cell? ⟨b, o, none⟩) ∧ (∀ b o, b < W.heap.size → w1.frozen? ⟨b, o, none⟩ = W.frozen? ⟨b, o, none⟩) :=
  ⟨fun b o h => hb.cell (p := ⟨b, o, none⟩) h, fun b o h => hb.frozen (p := ⟨b, o, none⟩) h⟩
theorem set_four {W : World} {a : Nat} (S : W32) (h : W.heap[a]? = some (.cells #[.int .u8 0, .int .u8 0, .int .u8 0, .int .u8 0] 130 (0, 0))) :
    ((((W.setCell ⟨a, 0, none⟩ (.int .u8 (bn (byt0 S)))).setCell ⟨a, 1, none⟩ (.int .u8 (bn (byt1 S)))).setCell ⟨a, 2, none⟩ (.int .u8 (bn (byt2 S)))).setCell ⟨a, 3, none⟩ (.int .u8 (bn (byt3 S)))).heap[a]? =
      some (.cells (bvals (fourB S)).toArray 130 (0, 0)) := by
  have h1 := heap_setCell_same _ _ 0 (.int .u8 (bn (byt0 S))) _ _ _ h
  have h2 := heap_setCell_same _ _ 1 (.int .u8 (bn (byt1 S))) _ _ _ h1
  have h3 := heap_setCell_same _ _ 2 (.int .u8 (bn (byt2 S))) _ _ _ h2
  have h4 := heap_setCell_same _ _ 3 (.int .u8 (bn (byt3 S))) _ _ _ h3
  exact h4
theorem below_four {w W : World} {a : Nat} (h : Below w.heap.size w W) (ha : w.heap.size ≤ a) (v0 v1 v2 v3 : Value) :
    Below w.heap.size w ((((W.setCell ⟨a, 0, none⟩ v0).setCell ⟨a, 1, none⟩ v1).setCell ⟨a, 2, none⟩ v2).setCell ⟨a, 3, none⟩ v3) :=
  (((h.setCell (p := ⟨a, 0, none⟩) ha _).setCell (p := ⟨a, 1, none⟩) ha _).setCell (p := ⟨a, 2, none⟩) ha _).setCell (p := ⟨a, 3, none⟩) ha _
/-- Behind the sum of what is ahead of the last four. -/
def OpenR (w : World) (S : W32) (x6 : Value) (W : World) : Prop := ∃ a, x6 = .pointer (some ⟨a, 0, none⟩) ∧ w.heap.size ≤ a ∧ W.heap[a]? = some (.cells (bvals (fourB S)).toArray 130 (0, 0)) ∧ Below w.heap.size w W
theorem _root_.Go.RowKit.Below.drewN {B : Nat} {a w : World} (h : Below B a w) (n : Nat) : Below B a (w.drewN n) := ⟨h.os, h.tape, h.output, h.size, h.block⟩
theorem below_al {w W : World} (h : Below w.heap.size w W) (o : Obj) : Below w.heap.size w (W.alloc o) := h.alloc h.size o
theorem below_dr {w W : World} (h : Below w.heap.size w W) : Below w.heap.size w W.drew := h.drew
theorem below_tr {w W W' : World} (h : Below w.heap.size w W) (k : Below W.heap.size W W') : Below w.heap.size w W' := h.trans (k.mono h.size)
theorem Bys.drop {w : World} {b off n cap : Nat} {bs : List B8} (h : Bys w (.slice (some ⟨b, off, none⟩) n cap) bs) (m k c : Nat) (hm : m + k = n) (hc : c = cap - m) : Bys w (.slice (some ⟨b, off + m, none⟩) k c) (bs.drop m) := by
  obtain ⟨A', cap', e, h1, h2, h3, h4⟩ := h
  cases e
  have hl : (bs.drop m).length = k := by simp; omega
  refine ⟨some ⟨b, off + m, none⟩, c, by rw [hl], by omega, by omega, (fun h => by cases h), fun hp => ?_⟩
  obtain ⟨b', off', e, hc⟩ := h4 (by omega)
  cases e
  refine ⟨b, off + m, rfl, fun j hj => ?_⟩
  rw [hl] at hj
  rw [Nat.add_assoc, hc (m + j) (by omega)]
  simp [byteAt, List.getD_eq_getElem?_getD, List.getElem?_drop]
theorem Bys.recap {w : World} {a : Addr} {n cap : Nat} {bs : List B8} (h : Bys w (.slice (some a) n cap) bs) (c : Nat) (h1 : n ≤ c) (h2 : c ≤ cap) : Bys w (.slice (some a) n c) bs := by
  obtain ⟨A', cap', e, g1, g2, g3, g4⟩ := h
  cases e
  exact ⟨some a, c, rfl, h1, by omega, (fun h => by cases h), g4⟩
theorem Own8.base {w : World} {B B' : Nat} {v : Value} {bs : List B8} (h : Own8 w B v bs) (hB : B' ≤ B) : Own8 w B' v bs := by
  refine ⟨h.1, ?_⟩
  rcases h.2 with hn | ⟨g, cap, cur, rfl, hb, rest⟩
  · exact .inl hn
  · exact .inr ⟨g, cap, cur, rfl, by omega, rest⟩
/-- What is sealed in bytes. -/
def openedW (bs : List B8) : Option (List B8) := if bs.length < 4 then none else if bs.drop (bs.length - 4) = fourB (moreW 0 (bs.take (bs.length - 4))) then some (bs.take (bs.length - 4)) else none
def OpenE (w : World) (r : Option (List B8)) (e : Ending) (w' : World) : Prop :=
  Below w.heap.size w w' ∧ match r with
  | none => e = .returned (.tuple #[.slice none 0 0, .int .i64 120])
  | some l => ∃ v', e = .returned (.tuple #[v', .int .i64 0]) ∧ Own8 w' w.heap.size v' l
theorem open_short (v : Value) (bs : List B8) (w : World) (hb : Bys w v bs) (hs : bs.length < 4) :
    Calls Try.prog 56 #[v] w fun e w' => e = .returned (.tuple #[.slice none 0 0, .int .i64 120]) ∧ w = w' := by
  obtain ⟨A, cap, rfl, hc1, hc2, hc3, hc4⟩ := hb
  clear hc3 hc4
  unfold maxLen at hc2
  have hlt : ((bs.length : Int) - 4 < 0) := by omega
  go_enter Try.func56, Try.ntmps56
  go_wp2
  go_ret2
  exact ⟨rfl, rfl⟩
set_option maxRecDepth 100000 in
set_option maxHeartbeats 1000000 in
theorem open_calls (v : Value) (bs : List B8) (w : World) (hb : Bys w v bs) (hs : 4 ≤ bs.length) (hlen : bs.length ≤ 1099511627776) :
    Calls Try.prog 56 #[v] w (OpenE w (openedW bs)) := by
  obtain ⟨m, hm⟩ : ∃ m, bs.length = m + 4 := ⟨bs.length - 4, by omega⟩
  have hb' := hb
  obtain ⟨A, cap, rfl, hc1, hc2, hc3, hc4⟩ := hb'
  obtain ⟨bb, off, rfl, _⟩ := hc4 (by omega)
  have HB := Lib.hid hb
  have HB2 := Lib.hid (hb.take m (by omega))
  have HM := Lib.hid hm
  unfold maxLen at hc2
  rw [hm] at hc1
  rw [hm]
  clear hb hc3 hc4 hm
  have em : ((m : Int) + 4 - 4) = m := by omega
  have em2 : ((m + 4 : Nat) : Int) = (m : Int) + 4 := by omega
  have i0 : (0 : Int) ≤ (m : Int) := by omega
  have hlt : ¬ ((m : Int) < 0) := by omega
  have i1 : (m : Int) ≤ (cap : Int) := by omega
  obtain ⟨S, hS⟩ : ∃ S, moreW 0 (bs.take m) = S := ⟨_, rfl⟩
  have HS := Lib.hid hS
  clear hS
  go_enter Try.func56, Try.ntmps56
  go_upto_region 4 with (fail)
  go_cut [5, 6] (fun x5 x6 W => x5 = .slice (some ⟨bb, off, none⟩) m m ∧ OpenR w S x6 W)
  case first =>
   go_region_law (first
    | (go_simp; go_at_call 96; refine (sum_any _ (.slice (some ⟨bb, off, none⟩) m cap) (bs.take m) S HS.out _ ?_ ?_).mono ?_; (first | exact new_here _ _ | exact heap_alloc2_new _ _ _ | exact heap_alloc2_old _ _ _); (refine HB2.out.below ?_; repeat (first | exact Below.refl _ _ | apply below_dr | apply below_al)); go_must (rintro e w2 ⟨rfl, h2⟩; obtain ⟨hc2, hf2⟩ := bcell h2; have hz2 := h2.size; simp at hz2; have hz3 : w.heap.size < w2.heap.size := (by omega); (first | (have hz4 : w.heap.size + 1 < w2.heap.size := (by omega)) | skip); have H2 := Lib.hid h2; clear h2))
    | (go_simp; go_at_call 95; refine (four_calls _ _).mono ?_; rintro e w3 ⟨rfl, h3⟩; obtain ⟨hc3, hf3⟩ := bcell h3; have H3 := Lib.hid h3; clear h3; simp only [fourV]))
   all_goals go_wp2_with fail
   all_goals go_meet
   all_goals
    have hb2 : Below w.heap.size w w2 := below_tr (by repeat (first | exact Below.refl _ _ | apply below_dr | apply below_al)) H2.out
    have hb3 : Below w.heap.size w w3 := below_tr (by first | exact hb2 | exact below_al hb2 _) H3.out
    have hs2 := hb2.size
    have hs3 := hb3.size
   · exact ⟨rfl, _, rfl, by omega, new_here w3 _, below_al hb3 _⟩
   · exact ⟨rfl, w2.heap.size, rfl, by omega, set_four _ ((H3.out.block _ (by simp)).trans (new_here w2 _)), below_four hb3 (by omega) _ _ _ _⟩
   · exact ⟨rfl, w.heap.size + 1, rfl, by omega, set_four _ ((H3.out.block _ (by omega)).trans ((H2.out.block _ (by simp)).trans (heap_alloc2_new w _ _))), below_four hb3 (by omega) _ _ _ _⟩
   · exact ⟨rfl, w.heap.size, rfl, by omega, set_four _ ((H3.out.block _ (by omega)).trans ((H2.out.block _ (by simp; omega)).trans (heap_alloc2_old w _ _))), below_four hb3 (by omega) _ _ _ _⟩
  case rest =>
    obtain ⟨rfl, a, rfl, ha, hh, hbw⟩ := hcut
    have HH := Lib.hid hh
    clear hh
    have hb4 := bys_of_heap HH.out (by simp [fourB, maxLen])
    have hb5 := (HB.out.below hbw)
    rw [HM.out] at hb5
    have hb6 := hb5.drop m 4 (cap - m) rfl rfl
    have hopen : openedW bs = if bs.drop m = fourB S then some (bs.take m) else none := by
      unfold openedW
      rw [if_neg (by omega), show bs.length - 4 = m by have := HM.out; omega, HS.out]
    have HB4 := Lib.hid hb4
    have HB6 := Lib.hid hb6
    have hnot : ∀ (x : Bool) (w : World), (Op.unary .not (.bool x)).run Try.prog w = .ok (.bool (!x)) w := fun _ _ => rfl
    have i2 : (0 : Int) ≤ (m : Int) + 4 := by omega
    have i3 : (m : Int) ≤ (m : Int) + 4 := by omega
    clear hb4 hb5 hb6
    by_cases he : bs.drop m = fourB S
    · rw [if_pos he] at hopen
      have he2 : decide (bs.drop m = fourB S) = true := decide_eq_true he
      have HO := Lib.hid hopen
      clear hopen he
      go_wp2
      go_quiet ((go_at_call 16; refine Calls.quiet_of (equal_calls _ _ (bs.drop m) (fourB S) _ HB6.out HB4.out)))
      go_wp2_with (at_builtin; refine wpList_app8 rfl (.tmp 28) (.tmp 29) rfl wc.heap.size _ _ [] (bs.take m) rfl (own8_empty _) rfl ?hx ?hl ?hbase ?_; rotate_left 3; intro v' w7 h7 h8 _)
      case hx => exact (HB2.out.recap m (Nat.le_refl _) (by omega)).below ((hbw.drewN _).alloc (by have := hbw.size; simpa using this) _)
      case hl => have := HM.out; have := List.length_take_le m bs; simp only [List.length_nil]; omega
      case hbase => simp
      go_ret2
      refine ⟨?_, ?_⟩
      · exact ((hbw.drewN nq).alloc (by have := hbw.size; simpa using this) (.cells #[] 5)).grown h8 (by have := hbw.size; simp; omega) (fun k e => by
          have : wc.heap.size = k := by simpa [Act.eval, Value.ownBlock] using e
          have := hbw.size
          omega)
      · rw [HO.out]
        exact ⟨v', rfl, Own8.base h7 hbw.size⟩
    · rw [if_neg he] at hopen
      have he2 : decide (bs.drop m = fourB S) = false := decide_eq_false he
      have HO := Lib.hid hopen
      clear hopen he
      go_wp2
      go_quiet ((go_at_call 16; refine Calls.quiet_of (equal_calls _ _ (bs.drop m) (fourB S) _ HB6.out HB4.out)))
      go_wp2
      go_ret2
      refine ⟨hbw.drewN _, ?_⟩
      rw [HO.out]
      rfl
theorem open_all (v : Value) (bs : List B8) (w : World) (hb : Bys w v bs) (hlen : bs.length ≤ 1099511627776) :
    Calls Try.prog 56 #[v] w (OpenE w (openedW bs)) := by
  by_cases hs : bs.length < 4
  · refine (open_short v bs w hb hs).mono ?_
    rintro e w' ⟨rfl, rfl⟩
    refine ⟨Below.refl _ _, ?_⟩
    rw [openedW, if_pos hs]
  · exact open_calls v bs w hb (by omega) hlen
end Go.Proofs.Ytnhmhnejglpijaa
namespace Go.Proofs.Ytnhmhnejglpijaa
open Go.RowKit
theorem shrk_nb (x : W32) (k : Nat) : nb x / (2 : Int) ^ k = nb (x >>> k) := shr_nb x k _ rfl
/-- Is a bit turned? -/
def isB (m : W32) (bit len k : Nat) : Bool := decide ((m >>> k) &&& 1#32 = 1#32) && decide (bit + k < 8 * len)
section
attribute [local go_sem] and_1 nb_eq_one shrk_nb
theorem is_calls (k len bit : Nat) (m : W32) (hk : k < 32) (hb : bit < 8 * len) (hl : len ≤ 1099511627776) (pm pb ps : Addr) (A : Option Addr) (cap : Nat) (w : World)
    (hm : w.cell? pm = some (.int .u32 (nb m))) (hbit : w.cell? pb = some (.int .i64 bit)) (hs : w.cell? ps = some (.slice A len cap)) :
    Calls Try.prog 93 #[.int .i64 k, .pointer (some pm), .pointer (some pb), .pointer (some ps)] w fun e w' => e = .returned (.bool (isB m bit len k)) ∧ w = w' := by
  have h0 := nb_range m
  by_cases h1 : (m >>> k) &&& 1#32 = 1#32
  · have h1b : decide ((m >>> k) &&& 1#32 = 1#32) = true := decide_eq_true h1
    by_cases h2 : bit + k < 8 * len
    · have hr : isB m bit len k = true := by simp only [isB, h1b]; simpa using h2
      have h3 : (bit : Int) + (k : Int) < 8 * (len : Int) := by omega
      have HR := Lib.hid hr
      clear hr h1
      go_enter Try.func93, Try.ntmps93
      go_wp2
      go_ret
      exact ⟨ret_bool HR.out.symm, rfl⟩
    · have hr : isB m bit len k = false := by simp only [isB, h1b]; simpa using h2
      have h3 : decide ((bit : Int) + (k : Int) < 8 * (len : Int)) = false := by rw [decide_eq_false_iff_not]; omega
      have HR := Lib.hid hr
      clear hr h1
      go_enter Try.func93, Try.ntmps93
      go_wp2
      go_ret
      exact ⟨ret_bool HR.out.symm, rfl⟩
  · have h1b : decide ((m >>> k) &&& 1#32 = 1#32) = false := decide_eq_false h1
    have hr : isB m bit len k = false := by simp only [isB, h1b, Bool.false_and]
    have HR := Lib.hid hr
    clear hr h1
    go_enter Try.func93, Try.ntmps93
    go_wp2
    go_ret
    exact ⟨ret_bool HR.out.symm, rfl⟩
end
end Go.Proofs.Ytnhmhnejglpijaa
namespace Go.Proofs.Ytnhmhnejglpijaa
open Go.RowKit
/-- What is refused. -/
theorem spoil_neg (v : Value) (bs : List B8) (bit : Int) (m : W32) (w : World) (hb : Bys w v bs) (hn : bit < 0) :
    Calls Try.prog 53 #[v, .int .i64 bit, .int .u32 (nb m)] w fun e w' => e = .returned (.tuple #[.slice none 0 0, .int .i64 2]) ∧ Below w.heap.size w w' := by
  obtain ⟨A, cap, rfl, hc1, hc2, hc3, hc4⟩ := hb
  clear hc3 hc4
  unfold maxLen at hc2
  have hd : decide (bit < 0) = true := decide_eq_true hn
  go_enter Try.func53, Try.ntmps53
  go_wp2
  go_ret2
  exact ⟨rfl, (((Below.refl _ w).alloc (Nat.le_refl _) _).alloc (by simp) _).alloc (by simp; omega) _⟩
theorem spoil_far (v : Value) (bs : List B8) (bit : Nat) (m : W32) (w : World) (hb : Bys w v bs) (hl : bs.length ≤ 1099511627776) (hn : 8 * bs.length ≤ bit) :
    Calls Try.prog 53 #[v, .int .i64 bit, .int .u32 (nb m)] w fun e w' => e = .returned (.tuple #[.slice none 0 0, .int .i64 2]) ∧ Below w.heap.size w w' := by
  obtain ⟨A, cap, rfl, hc1, hc2, hc3, hc4⟩ := hb
  clear hc3 hc4
  unfold maxLen at hc2
  have hd : decide ((bit : Int) < 0) = false := by rw [decide_eq_false_iff_not]; omega
  have hd2 : (bit : Int) ≥ 8 * (bs.length : Int) := by omega
  go_enter Try.func53, Try.ntmps53
  go_wp2
  go_ret2
  exact ⟨rfl, (((Below.refl _ w).alloc (Nat.le_refl _) _).alloc (by simp) _).alloc (by simp; omega) _⟩
def flipB (bs : List B8) (n : Nat) : List B8 := bs.set (n / 8) (byteAt bs (n / 8) ^^^ (1#8 <<< (n % 8)))
def spoilK (bs : List B8) (bit : Nat) (m : W32) : Nat → List B8
  | 0 => bs
  | k + 1 => if isB m bit bs.length k = true then flipB (spoilK bs bit m k) (bit + k) else spoilK bs bit m k
def spoilS (bs : List B8) (bit : Nat) (m : W32) : Nat → Bool
  | 0 => false
  | k + 1 => if isB m bit bs.length k = true then true else spoilS bs bit m k
theorem spoilK_length (bs : List B8) (bit : Nat) (m : W32) (k : Nat) : (spoilK bs bit m k).length = bs.length := by
  induction k with
  | zero => rfl
  | succ k ih =>
    simp only [spoilK]
    split
    · simp [flipB, ih]
    · exact ih
theorem Bys.src {W : World} {A : Option Addr} {n cap : Nat} {bs : List B8} (h : Bys W (.slice A n cap) bs) :
    0 < (bvals bs).length → ∃ ad, A = some ad ∧ ∀ (j : Nat) (v : Value), (bvals bs)[j]? = some v → W.cell? (ad.add j) = some v := by
  intro hp
  obtain ⟨A', cap', e, _, _, _, h4⟩ := h
  cases e
  rw [bvals_length] at hp
  obtain ⟨b, off, e, hc⟩ := h4 hp
  refine ⟨_, e, fun j u hu => ?_⟩
  obtain ⟨hj, rfl⟩ := bvals_get' hu
  rw [add_off]
  exact hc j hj
theorem splice_all (bs : List B8) : splice (bvals (List.replicate bs.length 0#8)) 0 (bvals bs) = bvals bs := by
  have := splice_front bs 0
  simpa using this
theorem ofInt_bn (x : B8) : BitVec.ofInt 8 (bn x) = x := by simp [bn, BitVec.ofInt_natCast]
theorem wrap_u8_nat {n : Nat} (h : n < 256) : IntKind.u8.wrap (n : Int) = n := by rw [IntKind.wrap_u8]; omega
theorem bits_xor8 (x y : B8) : bits .xor .u8 (bn x) (bn y) = bn (x ^^^ y) := by
  simp only [bits, IntKind.bits, ofInt_bn]
  exact wrap_u8_nat (x ^^^ y).isLt
theorem two_pow_bn : ∀ r : Nat, r < 8 → (2 : Int) ^ r % 256 = bn (1#8 <<< r) := by decide
theorem xor_shift (x : B8) (r : Nat) (hr : r < 8) : bits .xor .u8 (bn x) ((2 : Int) ^ r % 256) = bn (x ^^^ (1#8 <<< r)) := by rw [two_pow_bn r hr, bits_xor8]
theorem bvals_set (bs : List B8) (j : Nat) (b : B8) : (bvals bs).toArray.setIfInBounds j (.int .u8 (bn b)) = (bvals (bs.set j b)).toArray := by
  simp [bvals, List.setIfInBounds_toArray, List.map_set]
structure SpR (w : World) (A : Option Addr) (bs : List B8) (cap bit : Nat) (m : W32) (k : Nat) (wr : World) : Prop where
  below : Below w.heap.size w wr
  b : wr.heap[w.heap.size]? = some (.cells #[.slice A bs.length cap] 34 (0, 0))
  bit_ : wr.heap[w.heap.size + 1]? = some (.cells #[.int .i64 bit] 3 (0, 0))
  mask : wr.heap[w.heap.size + 2]? = some (.cells #[.int .u32 (nb m)] 46 (0, 0))
  out : wr.heap[w.heap.size + 3]? = some (.cells (bvals (spoilK bs bit m k)).toArray 5 (0, 0))
/-- Bytes with bits turned; none: none is. -/
def spoilW (bs : List B8) (bit : Nat) (m : W32) : Option (List B8) := if spoilS bs bit m 32 = true then some (spoilK bs bit m 32) else none
def SpoilE (w : World) (r : Option (List B8)) (e : Ending) (w' : World) : Prop :=
  Below w.heap.size w w' ∧ match r with
  | none => e = .returned (.tuple #[.slice none 0 0, .int .i64 2])
  | some l => ∃ v', e = .returned (.tuple #[v', .int .i64 0]) ∧ Own8 w' w.heap.size v' l
set_option maxRecDepth 100000 in
theorem spoil_calls0 (v : Value) (bs : List B8) (bit : Nat) (m : W32) (w : World) (hb : Bys w v bs) (hl : bs.length ≤ 1099511627776) (hn : bit < 8 * bs.length) :
    Calls Try.prog 53 #[v, .int .i64 bit, .int .u32 (nb m)] w (SpoilE w (spoilW bs bit m)) := by
  have hb' := hb
  obtain ⟨A, cap, rfl, hc1, hc2, hc3, hc4⟩ := hb'
  have HB := Lib.hid hb
  clear hb hc3 hc4
  unfold maxLen at hc2
  have hd : decide ((bit : Int) < 0) = false := by rw [decide_eq_false_iff_not]; omega
  have hd2 : decide ((bit : Int) ≥ 8 * (bs.length : Int)) = false := by rw [decide_eq_false_iff_not]; omega
  have hmk : ∀ w, (Instr.makeSlice 34 (.int .i64 bs.length) (.int .i64 bs.length)).run Try.prog w = .ok (.slice (some ⟨w.heap.size, 0, none⟩) bs.length bs.length) (w.alloc (.cells (zb bs.length) 5)) := fun w => run_make8 w bs.length bs.length (Nat.le_refl _) (by omega)
  have hmf : ∀ (fn : Fn) (first cap : Array Value) (w : World), (Instr.makeFunc fn first cap).run Try.prog w = .ok (.func fn first cap) w := fun _ _ _ _ => rfl
  go_enter Try.func53, Try.ntmps53
  go_wp2_with (refine wpList_copy_splice rfl (.tmp 25) (.tmp 26) 34 34 rfl 5 Try.underlying34 (by kernel_rfl) _ _ _ _ _ _ rfl rfl (w.heap.size + 3) 0 (bvals (List.replicate bs.length 0#8)) 5 ?hg (bvals bs) ?hn ?hpos ?hfit (bvals_one bs) (w.heap.size + 3) _ (Below.refl _ _) (Nat.le_refl _) ?_; rotate_left 4; intro w6 hg6 hb6)
  case hg => exact (new_four w _ _ _ _).2.2.2
  case hn => simp [bvals_length]
  case hfit => simp [bvals_length]
  case hpos => exact (HB.out.below ((((((Below.refl _ w).alloc (Nat.le_refl _) _).alloc (by simp) _).alloc (by simp; omega) _).alloc (by simp; omega) _))).src
  have hR : SpR w A bs cap bit m 0 w6 := by
    obtain ⟨g0, g1, g2, _⟩ := new_four w (.cells #[.slice A bs.length cap] 34) (.cells #[.int .i64 bit] 3) (.cells #[.int .u32 (nb m)] 46) (.cells (zb bs.length) 5)
    refine ⟨?_, (hb6.block _ (by omega)).trans g0, (hb6.block _ (by omega)).trans g1, (hb6.block _ (by omega)).trans g2, ?_⟩
    · exact ((((((Below.refl _ w).alloc (Nat.le_refl _) _).alloc (by simp) _).alloc (by simp; omega) _).alloc (by simp; omega) _)).trans (hb6.mono (by omega))
    · have := hg6.out
      rw [splice_all] at this
      exact this
  clear hg6 hb6
  go_loopw [28, 11, 10] (fun i _ o wr => ∃ k : Nat, k ≤ 32 ∧ i = .int .i64 k ∧ o = .bool (spoilS bs bit m k) ∧ SpR w A bs cap bit m k wr) (fun i _ _ _ => 32 - (intOf i).toNat)
  case atStart => exact ⟨0, by omega, rfl, rfl, hR⟩
  case round =>
    obtain ⟨k, hk, rfl, rfl, hr⟩ := hrel
    have HR := Lib.hid hr
    clear hr hmk hd hd2
    have p0 := cell_of_heap (k := 0) HR.out.b
    have p1 := cell_of_heap (k := 0) HR.out.bit_
    have p2 := cell_of_heap (k := 0) HR.out.mask
    simp only [List.getElem?_toArray, List.getElem?_cons_zero] at p0 p1 p2
    by_cases hlt : k < 32
    · have hd : decide ((k : Int) < 32) = true := by simp; omega
      generalize hcur : spoilK bs bit m k = cur
      generalize hso : spoilS bs bit m k = so
      have HC := Lib.hid hcur
      have HSO := Lib.hid hso
      clear hcur hso
      by_cases hi : isB m bit bs.length k = true
      · go_wp2_with (go_at_call 93; refine (is_calls k bs.length bit m hlt hn hl ⟨w.heap.size + 1 + 1, 0, none⟩ ⟨w.heap.size + 1, 0, none⟩ ⟨w.heap.size, 0, none⟩ A cap _ p2 p1 p0).mono ?_; rintro e w' ⟨rfl, rfl⟩)
        have hN : bit + k < 8 * bs.length := by simp only [isB, Bool.and_eq_true, decide_eq_true_eq] at hi; exact hi.2
        have hout := HR.out.out
        rw [HC.out] at hout
        have hcl : cur.length = bs.length := by rw [← HC.out]; exact spoilK_length bs bit m k
        have c9 := (cell_of_heap (k := (bit + k) / 8) hout).trans (by rw [List.getElem?_toArray, bvals_get cur ((bit + k) / 8) (by omega)])
        have f9 := free_of_heap (k := (bit + k) / 8) hout
        have HOUT := Lib.hid hout
        have HCL := Lib.hid hcl
        have i0 : (0 : Int) ≤ (((bit + k) / 8 : Nat) : Int) := by omega
        have i1 : (((bit + k) / 8 : Nat) : Int) < (bs.length : Int) := by omega
        have i2 : (0 : Int) ≤ (((bit + k) % 8 : Nat) : Int) := by omega
        have e1 : IntKind.i64.wrap ((bit : Int) + (k : Int)) = ((bit + k : Nat) : Int) := by rw [IntKind.wrap_i64]; omega
        have e2 : IntKind.i64.wrap (Int.tdiv ((bit + k : Nat) : Int) 8) = (((bit + k) / 8 : Nat) : Int) := by rw [IntKind.wrap_i64, Int.tdiv_eq_ediv_of_nonneg (by omega)]; omega
        have e3 : Int.tmod ((bit + k : Nat) : Int) 8 = (((bit + k) % 8 : Nat) : Int) := by rw [Int.tmod_eq_emod_of_nonneg (by omega)]; omega
        clear hout hcl hN
        go_region
        rw [xor_shift _ _ (Nat.mod_lt _ (by omega))]
        have hs1 := lt_of_heap HOUT.out
        have hrs : SpR w A bs cap bit m (k + 1) (wr.setCell ⟨w.heap.size + 1 + 1 + 1, (bit + k) / 8, none⟩ (.int .u8 (bn (byteAt cur ((bit + k) / 8) ^^^ 1#8 <<< ((bit + k) % 8))))).drew := by
          refine ⟨(HR.out.below.setCell (p := ⟨w.heap.size + 1 + 1 + 1, (bit + k) / 8, none⟩) (by simp; omega) _).drew, ?_, ?_, ?_, ?_⟩
          · show (wr.setCell _ _).heap[_]? = _; rw [Below.heap_setCell _ _ _ _ (by simp; omega)]; exact HR.out.b
          · show (wr.setCell _ _).heap[_]? = _; rw [Below.heap_setCell _ _ _ _ (by simp)]; exact HR.out.bit_
          · show (wr.setCell _ _).heap[_]? = _; rw [Below.heap_setCell _ _ _ _ (by simp)]; exact HR.out.mask
          · refine (heap_setCell_same wr (w.heap.size + 3) _ _ _ _ _ HOUT.out).trans ?_
            rw [bvals_set, spoilK, if_pos hi, HC.out]
            rfl
        have hss : spoilS bs bit m (k + 1) = true := by rw [spoilS, if_pos hi]
        have HSS := Lib.hid hss
        have HRS := Lib.hid hrs
        clear hss hrs e1 e2 e3
        go_wp2
        go_roundw
        case rel => exact ⟨k + 1, by omega, by go_num, by rw [HSS.out], HRS.out⟩
        case measure => simp [intOf]; omega
      · have hi2 : isB m bit bs.length k = false := by simpa using hi
        have hss : spoilS bs bit m (k + 1) = so := by rw [spoilS, if_neg hi, HSO.out]
        have hrs : SpR w A bs cap bit m (k + 1) wr := ⟨HR.out.below, HR.out.b, HR.out.bit_, HR.out.mask, by rw [spoilK, if_neg hi]; exact HR.out.out⟩
        have HSS := Lib.hid hss
        have HRS := Lib.hid hrs
        clear hss hrs
        go_wp2_with (go_at_call 93; refine (is_calls k bs.length bit m hlt hn hl ⟨w.heap.size + 1 + 1, 0, none⟩ ⟨w.heap.size + 1, 0, none⟩ ⟨w.heap.size, 0, none⟩ A cap _ p2 p1 p0).mono ?_; rintro e w' ⟨rfl, rfl⟩)
        go_roundw
        case rel => exact ⟨k + 1, by omega, by go_num, by rw [HSS.out], HRS.out⟩
        case measure => simp [intOf]; omega
    · have hd : decide ((k : Int) < 32) = false := by simp; omega
      have hk2 : k = 32 := by omega
      have hout : wr.heap[w.heap.size + 3]? = some (.cells (bvals (spoilK bs bit m 32)).toArray 5 (0, 0)) := by rw [← hk2]; exact HR.out.out
      have HB2 := HR.out.below
      have HOUT := Lib.hid hout
      have hnot : ∀ (x : Bool) (w : World), (Op.unary .not (.bool x)).run Try.prog w = .ok (.bool (!x)) w := fun _ _ => rfl
      by_cases hss : spoilS bs bit m 32 = true
      · have hs2 : spoilS bs bit m k = true := by rw [hk2]; exact hss
        have hw : spoilW bs bit m = some (spoilK bs bit m 32) := by rw [spoilW, if_pos hss]
        have HW := Lib.hid hw
        clear hss hw hout hk2
        go_wp2
        go_ret2
        refine ⟨HB2, ?_⟩
        rw [HW.out]
        refine ⟨_, rfl, own8_of_heap (by omega) HOUT.out (by rw [bvals_length, spoilK_length]) (spoilK_length ..) (Nat.le_refl _) (by unfold maxLen; omega) ?_⟩
        exact List.take_of_length_le (by rw [bvals_length, spoilK_length]; exact Nat.le_refl _)
      · have hs2 : spoilS bs bit m k = false := by rw [hk2]; simpa using hss
        have hw : spoilW bs bit m = none := by rw [spoilW, if_neg hss]
        have HW := Lib.hid hw
        clear hss hw hout hk2
        go_wp2
        go_ret2
        refine ⟨HB2, ?_⟩
        rw [HW.out]
        rfl
end Go.Proofs.Ytnhmhnejglpijaa
