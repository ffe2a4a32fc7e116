/- Words for the walks over package crc: bits of words, what is kept of a world, the table of nibbles. No program in sight. -/
import Derived.WalkKit
import Derived.IntWalk
import Derived.OwnWalk
import Derived.Deep.Draws
import Derived.Lib.Hide
namespace Go.Proofs.Ytnhmhnejglpijaa
open Go.RowKit
/-! ### Worlds: all but some blocks is as it was -/
structure Mod (L : List Nat) (w w' : World) : Prop where
  os : w'.os = w.os
  tape : w'.tape = w.tape
  output : w'.output = w.output
  size : w.heap.size ≤ w'.heap.size
  block : ∀ i, i < w.heap.size → i ∉ L → w'.heap[i]? = w.heap[i]?
namespace Mod
variable {L M : List Nat} {a w w' : World}
theorem refl (L : List Nat) (w : World) : Mod L w w := ⟨rfl, rfl, rfl, Nat.le_refl _, fun _ _ _ => rfl⟩
theorem trans {c : World} (h : Mod L a w) (k : Mod L w c) : Mod L a c :=
  ⟨k.os.trans h.os, k.tape.trans h.tape, k.output.trans h.output, Nat.le_trans h.size k.size, fun i hi hL => (k.block i (Nat.lt_of_lt_of_le hi h.size) hL).trans (h.block i hi hL)⟩
theorem mono (h : Mod L a w) (hs : ∀ i, i < a.heap.size → i ∈ L → i ∈ M) : Mod M a w := ⟨h.os, h.tape, h.output, h.size, fun i hi hM => h.block i hi (fun hL => hM (hs i hi hL))⟩
theorem drewN (h : Mod L a w) (n : Nat) : Mod L a (w.drewN n) := ⟨h.os, h.tape, h.output, h.size, h.block⟩
theorem drew (h : Mod L a w) : Mod L a w.drew := ⟨h.os, h.tape, h.output, h.size, h.block⟩
theorem alloc (h : Mod L a w) (o : Obj) : Mod L a (w.alloc o) :=
  h.trans ⟨rfl, rfl, rfl, by simp, fun i hi _ => Below.heap_alloc _ _ _ hi⟩
theorem setCell (h : Mod L a w) {p : Addr} (hp : p.block ∈ L) (v : Value) : Mod L a (w.setCell p v) :=
  h.trans ⟨rfl, rfl, rfl, by simp [World.setCell], fun i _ hL => Below.heap_setCell _ _ _ _ (fun e => hL (e ▸ hp))⟩
/-- a store into what is new -/
theorem setCell_new (h : Mod L a w) {p : Addr} (hp : a.heap.size ≤ p.block) (v : Value) : Mod L a (w.setCell p v) :=
  ⟨h.os, h.tape, h.output, by simpa [World.setCell] using h.size, fun i hi hL => (Below.heap_setCell _ _ _ _ (by omega)).trans (h.block i hi hL)⟩
theorem below (h : Mod L a w) {B : Nat} (hB : ∀ i, i ∈ L → B ≤ i) (hs : B ≤ a.heap.size) : Below B a w :=
  ⟨h.os, h.tape, h.output, h.size, fun k hk => h.block k (by omega) (fun hL => by have := hB k hL; omega)⟩
theorem of_below {B : Nat} (h : Below B a w) (hB : ∀ i, i < a.heap.size → B ≤ i → i ∈ L) : Mod L a w :=
  ⟨h.os, h.tape, h.output, h.size, fun i hi hL => h.block i (by by_cases hb : i < B; exact hb; exact absurd (hB i hi (by omega)) hL)⟩
theorem of_below' (h : Below a.heap.size a w) : Mod L a w := of_below h (fun i hi hb => absurd hi (by omega))
theorem cell (h : Mod L a w) {p : Addr} (hp : p.block < a.heap.size) (hL : p.block ∉ L) : w.cell? p = a.cell? p := World.cell?_of_block (w := a) (h.block p.block hp hL)
theorem frozen (h : Mod L a w) {p : Addr} (hp : p.block < a.heap.size) (hL : p.block ∉ L) : w.frozen? p = a.frozen? p := World.frozen?_of_block (w := a) (h.block p.block hp hL)
theorem then_ {c : World} (h : Mod L a w) (k : Mod M w c) (hM : ∀ i, i < a.heap.size → i ∈ M → i ∈ L) : Mod L a c :=
  ⟨k.os.trans h.os, k.tape.trans h.tape, k.output.trans h.output, Nat.le_trans h.size k.size, fun i hi hL => (k.block i (Nat.lt_of_lt_of_le hi h.size) (fun hm => hL (hM i hi hm))).trans (h.block i hi hL)⟩
end Mod
theorem heap_setCell_same (w : World) (b k : Nat) (v : Value) (c : Array Value) (t : TypeId) (f : Nat × Nat) (h : w.heap[b]? = some (.cells c t f)) :
    (w.setCell ⟨b, k, none⟩ v).heap[b]? = some (.cells (c.setIfInBounds k v) t f) := by
  simp [World.setCell, Array.getElem?_modify, h]
theorem cell_of_heap {w : World} {b k : Nat} {c : Array Value} {t : TypeId} {f : Nat × Nat} (h : w.heap[b]? = some (.cells c t f)) : w.cell? ⟨b, k, none⟩ = c[k]? := by
  simp [World.cell?, h]
theorem free_of_heap {w : World} {b k : Nat} {c : Array Value} {t : TypeId} (h : w.heap[b]? = some (.cells c t (0, 0))) : w.frozen? ⟨b, k, none⟩ = false := by
  simp [World.frozen?, h]
theorem lt_of_heap {w : World} {b : Nat} {o : Obj} (h : w.heap[b]? = some o) : b < w.heap.size := (Array.getElem?_eq_some_iff.1 h).1

/-! ### Words of 32 bits -/
abbrev W32 := BitVec 32
def poly : W32 := 0xEDB88320#32
def fed (r bit : W32) : W32 := if (r ^^^ bit) &&& 1#32 = 1#32 then (r >>> 1) ^^^ poly else r >>> 1
/-- a word's number -/
def nb (x : W32) : Int := (x.toNat : Int)
theorem nb_range (x : W32) : 0 ≤ nb x ∧ nb x ≤ 4294967295 := by have := x.isLt; unfold nb; omega
theorem nb_inj {x y : W32} (h : nb x = nb y) : x = y := BitVec.eq_of_toNat_eq (by unfold nb at h; omega)
theorem nb_ofNat {n : Nat} (h : n < 4294967296) : nb (BitVec.ofNat 32 n) = n := by unfold nb; rw [BitVec.toNat_ofNat]; omega
theorem wrap_u32_nat {n : Nat} (h : n < 4294967296) : IntKind.u32.wrap (n : Int) = n := by rw [IntKind.wrap_u32]; omega
theorem wrap_nb (x : W32) : IntKind.u32.wrap (nb x) = nb x := wrap_u32_nat x.isLt
theorem ofInt_nb (x : W32) : BitVec.ofInt 32 (nb x) = x := by simp [nb, BitVec.ofInt_natCast]
theorem bits_xor (x y : W32) : bits .xor .u32 (nb x) (nb y) = nb (x ^^^ y) := by
  simp only [bits, IntKind.bits, ofInt_nb]
  exact wrap_u32_nat (x ^^^ y).isLt
theorem bits_and (x y : W32) : bits .and .u32 (nb x) (nb y) = nb (x &&& y) := by
  simp only [bits, IntKind.bits, ofInt_nb]
  exact wrap_u32_nat (x &&& y).isLt
theorem bits_or (x y : W32) : bits .or .u32 (nb x) (nb y) = nb (x ||| y) := by
  simp only [bits, IntKind.bits, ofInt_nb]
  exact wrap_u32_nat (x ||| y).isLt
theorem shr_nb (x : W32) (k : Nat) (n : Int) (hn : n = 2 ^ k) : nb x / n = nb (x >>> k) := by
  subst hn
  unfold nb
  rw [BitVec.toNat_ushiftRight, Nat.shiftRight_eq_div_pow]
  norm_cast
theorem nb_eq_one (x : W32) : (nb x == (1 : Int)) = decide (x = 1#32) := by
  rw [Bool.eq_iff_iff]
  simp only [beq_iff_eq, decide_eq_true_eq]
  exact ⟨fun h => nb_inj h, fun h => by rw [h]; rfl⟩
theorem shr1_nb (x : W32) : nb x / (2 : Int) = nb (x >>> 1) := shr_nb x 1 2 rfl
theorem shr4_nb (x : W32) : nb x / (16 : Int) = nb (x >>> 4) := shr_nb x 4 16 rfl
theorem xor_poly (x : W32) : bits .xor .u32 (nb x) (3988292384 : Int) = nb (x ^^^ poly) := bits_xor x poly
theorem and_1 (x : W32) : bits .and .u32 (nb x) (1 : Int) = nb (x &&& 1#32) := bits_and x 1#32
theorem and_15 (x : W32) : bits .and .u32 (nb x) (15 : Int) = nb (x &&& 15#32) := bits_and x 15#32
/-! ### Bytes -/
abbrev B8 := BitVec 8
def bn (b : B8) : Int := (b.toNat : Int)
theorem bn_range (b : B8) : 0 ≤ bn b ∧ bn b ≤ 255 := by have := b.isLt; unfold bn; omega
theorem bn_inj {x y : B8} (h : bn x = bn y) : x = y := BitVec.eq_of_toNat_eq (by unfold bn at h; omega)
theorem bn_nb (b : B8) : bn b = nb (b.setWidth 32) := by
  unfold bn nb
  rw [BitVec.toNat_setWidth]
  have := b.isLt
  omega
theorem xor_bn (x : W32) (b : B8) : bits .xor .u32 (nb x) (bn b) = nb (x ^^^ b.setWidth 32) := by rw [bn_nb, bits_xor]

/-! ### The table of nibbles -/
def fedN : Nat → W32 → W32
  | 0, r => r
  | n + 1, r => fed (fedN n r) 0#32
def nib (k : Nat) : W32 := fedN 4 (BitVec.ofNat 32 k)
def tabCells (d s : Int) (k : Nat) : Array Value := (([.int .u32 d, .int .i32 s, .int .u32 0] : List Value) ++ (List.range 16).map fun j => Value.int .u32 (if j < k then nb (nib j) else 0)).toArray
/-- a register behind four bits, and behind a byte -/
def nibW (x : W32) : W32 := nib x.toNat
def half (x : W32) : W32 := (x >>> 4) ^^^ nibW (x &&& 15#32)
def feedByte (x : W32) (b : B8) : W32 := half (half (x ^^^ b.setWidth 32))
theorem and15_lt (x : W32) : (x &&& 15#32).toNat < 16 := by
  rw [BitVec.toNat_and]
  exact Nat.lt_of_le_of_lt Nat.and_le_right (by decide)
theorem tab_at (d s : Int) (k j : Nat) (hj : j < 16) : (tabCells d s k)[3 + j]? = some (.int .u32 (if j < k then nb (nib j) else 0)) := by
  simp only [tabCells, List.getElem?_toArray]
  rw [List.getElem?_append_right (by simp)]
  simp [hj]
theorem tab_0 (d s : Int) (k : Nat) : (tabCells d s k)[0]? = some (.int .u32 d) := rfl
theorem tab_1 (d s : Int) (k : Nat) : (tabCells d s k)[1]? = some (.int .i32 s) := rfl
theorem tab_set0 (d s d' : Int) (k : Nat) : (tabCells d s k).setIfInBounds 0 (.int .u32 d') = tabCells d' s k := by simp [tabCells]
theorem tab_set1 (d s s' : Int) (k : Nat) : (tabCells d s k).setIfInBounds 1 (.int .i32 s') = tabCells d s' k := by simp [tabCells]
theorem tab_set (d s : Int) (k : Nat) (hk : k < 16) : (tabCells d s k).setIfInBounds (3 + k) (.int .u32 (nb (nib k))) = tabCells d s (k + 1) := by
  simp only [tabCells, List.setIfInBounds_toArray]
  congr 1
  apply List.ext_getElem?
  intro i
  rw [List.getElem?_set]
  by_cases h : 3 + k = i
  · subst h
    rw [if_pos rfl, if_pos (by simp; omega), List.getElem?_append_right (by simp)]
    simp [hk]
  · rw [if_neg h]
    by_cases h3 : i < 3
    · rw [List.getElem?_append_left (by simpa using h3), List.getElem?_append_left (by simpa using h3)]
    · rw [List.getElem?_append_right (by simp; omega), List.getElem?_append_right (by simp; omega)]
      simp only [List.length_cons, List.length_nil, List.getElem?_map]
      by_cases h16 : i - 3 < 16
      · rw [List.getElem?_range (by simpa using h16)]
        simp only [Option.map_some]
        by_cases hik : i - (0 + 1 + 1 + 1) < k
        · rw [if_pos hik, if_pos (by omega)]
        · rw [if_neg hik, if_neg (by omega)]
      · rw [List.getElem?_eq_none (by simp; omega)]
        rfl
end Go.Proofs.Ytnhmhnejglpijaa
