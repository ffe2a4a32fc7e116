/- JournalTorn: the walk. -/
import Derived.Test.YtnhmhnejglpijaaRb
namespace Go.Proofs.Ytnhmhnejglpijaa
open Go.RowKit
set_option maxRecDepth 100000
set_option linter.unusedSimpArgs false
set_option linter.unusedVariables false
/-- rows of one's own, and what was joined -/
structure TnS (w : World) (fr : List (List B8)) (A : Option Addr) (n c : Nat) (A2 : Option Addr) (m c2 : Nat) (W : World) : Prop where
  below : Below w.heap.size w W
  rows : RwsA W (.slice A n c) fr
  own : Bt W (.slice A2 m c2) (joinW fr)
theorem TnS.keep {w W W' : World} {fr : List (List B8)} {A : Option Addr} {n c : Nat} {A2 : Option Addr} {m c2 : Nat} (h : TnS w fr A n c A2 m c2 W) (hb : Below W.heap.size W W') : TnS w fr A n c A2 m c2 W' := ⟨below_tr h.below hb, h.rows.below hb, h.own.below hb⟩
theorem own_cap {w : World} {B : Nat} {A : Option Addr} {m c q : Nat} {bs : List B8} (h : Own8 w B (.slice A m c) bs) (hq : q ≤ m) : (q : Int) ≤ (c : Int) := by
  obtain ⟨A', c', e, h1, _⟩ := h.bys
  cases e
  omega
theorem rws_cap {w : World} {A : Option Addr} {n c k : Nat} {rows : List (List B8)} (h : RwsA w (.slice A n c) rows) (hk : k ≤ n) : (k : Int) ≤ (c : Int) := by
  obtain ⟨A', c', e, h1, _⟩ := h
  cases e
  omega
theorem okRows_iff {fr : List (List B8)} (h : okRows fr = true) : ∀ r, r ∈ fr → r.length ≤ 65536 := fun r hr => by simpa using List.all_eq_true.1 h r hr
theorem joinW_small {fr : List (List B8)} (hok : okRows fr = true) (h6 : fr.length ≤ 6) : (joinW fr).length ≤ 393264 := by
  have := joinW_len fr (okRows_iff hok)
  omega
theorem scan_whole (fr : List (List B8)) (hok : okRows fr = true) : heldL (recAt (joinW fr) 0) = fr ∧ endW (joinW fr) = (joinW fr).length := by
  have h1 := held_joined fr [] 110 (okRows_iff hok) (first_short _ (by decide))
  have h2 := end_joined fr [] 110 (okRows_iff hok) (first_short _ (by decide))
  rw [List.append_nil] at h1 h2
  exact ⟨h1, h2⟩
theorem cut_idx (cut : Int) (m : Nat) (hm : m ≤ 1000000) : ∃ q : Nat, q ≤ m ∧ ¬ IntKind.u64.wrap (wrap64 ((m : Int) + 1)) = 0 ∧ wrap64 ((IntKind.u64.wrap cut).tmod (IntKind.u64.wrap (wrap64 ((m : Int) + 1)))) = (q : Int) := by
  have h1 : wrap64 ((m : Int) + 1) = (m : Int) + 1 := (by unfold wrap64; omega)
  have h2 : IntKind.u64.wrap ((m : Int) + 1) = (m : Int) + 1 := by rw [IntKind.wrap_u64]; omega
  have h3 : 0 ≤ IntKind.u64.wrap cut := by rw [IntKind.wrap_u64]; omega
  rw [h1, h2]
  have h4 := Int.tmod_nonneg ((m : Int) + 1) h3
  have h5 := Int.tmod_lt_of_pos (IntKind.u64.wrap cut) (b := (m : Int) + 1) (by omega)
  obtain ⟨q, hq⟩ := Int.eq_ofNat_of_zero_le h4
  refine ⟨q, by omega, by omega, ?_⟩
  rw [hq]
  exact (by unfold wrap64; omega)
set_option maxHeartbeats 4000000 in
theorem torn_no (v : Value) (rows : List (List B8)) (cut : Int) (w : World) (hv : RwsA w v rows) (hok : okRows (fewR rows) = false) :
    Calls Try.prog 7 #[v, .int .i64 cut] w fun e w' => e = .returned (.bool true) ∧ Below w.heap.size w w' := by
  obtain ⟨A0, c0, rfl, _⟩ := id hv
  have HV := Lib.hid hv
  have h6 := Lib.hid (fewR_len rows)
  have HOK := Lib.hid hok
  clear hv hok
  go_enter Try.func7, Try.ntmps7
  go_wp2_with (first
    | (go_at_call 35; (with_reducible refine (wakes23_calls _).mono ?_); rintro e w1 ⟨rfl, hb1⟩)
    | (go_at_call 36; (with_reducible refine (few_at _ rows _ (HV.out.below hb1)).mono ?_); rintro e w2 ⟨A, c, rfl, ho2, hb2⟩; (have HR2 := Lib.hid (ho2.rws (el_own _))); (have hb2' : Below w.heap.size w w2 := below_tr hb1 hb2); clear ho2 hb2)
    | (go_at_call 38; (with_reducible refine (join_no _ _ _ HR2.out (by have := h6.out; omega) HOK.out).mono ?_); rintro e w3 ⟨A3, c3, rfl, hb3⟩))
  go_ret
  exact ⟨rfl, below_tr hb2' hb3⟩
set_option maxHeartbeats 4000000 in
theorem torn_yes (v : Value) (rows : List (List B8)) (cut : Int) (w : World) (hv : RwsA w v rows) (hok : okRows (fewR rows) = true) :
    Calls Try.prog 7 #[v, .int .i64 cut] w fun e w' => e = .returned (.bool true) ∧ Below w.heap.size w w' := by
  obtain ⟨A0, c0, rfl, _⟩ := id hv
  have HV := Lib.hid hv
  have h6 := fewR_len rows
  have HF := fun (v : Value) (w : World) (h : RwsA w v rows) => few_at v rows w h
  obtain ⟨fr, hfr⟩ : ∃ fr, fewR rows = fr := ⟨_, rfl⟩
  rw [hfr] at h6 hok HF
  have hj6 := joinW_small hok h6
  obtain ⟨hheld, hend⟩ := scan_whole fr hok
  obtain ⟨m, hm⟩ : ∃ m, (joinW fr).length = m := ⟨_, rfl⟩
  obtain ⟨n, hn⟩ : ∃ n, fr.length = n := ⟨_, rfl⟩
  have HJ := fun (v : Value) (w : World) (hv : RwsA w v fr) => join_ok v fr w hv (by omega) hok
  have HSC := fun (A : Option Addr) (c : Nat) (w : World) (hb : Bt w (.slice A m c) (joinW fr)) => scan_at A c m (joinW fr) fr m w hb (by omega) hheld (by omega)
  rw [hn] at h6 HF HSC
  rw [hm] at hj6 HJ
  have HF := Lib.hid HF
  have HJ := Lib.hid HJ
  have HSC := Lib.hid HSC
  have HM := Lib.hid hm
  have HN := Lib.hid hn
  have H6 := Lib.hid h6
  have HJ6 := Lib.hid hj6
  have HOK := Lib.hid (okRows_iff hok)
  have hm1 : ((m : Int) != (m : Int)) = false := by simp
  obtain ⟨q, hqm, hq0, hq⟩ := cut_idx cut m (by omega)
  have HQM := Lib.hid hqm
  clear hv hok hfr hheld hend hm hn h6 hj6
  go_enter Try.func7, Try.ntmps7
  go_wp2_with (first
    | (go_at_call 35; (with_reducible refine (wakes23_calls _).mono ?_); rintro e w1 ⟨rfl, hb1⟩)
    | (go_at_call 36; (with_reducible refine (HF.out _ _ (HV.out.below hb1)).mono ?_); rintro e w2 ⟨A, c, rfl, ho2, hb2⟩; (have HR2 := Lib.hid (ho2.rws (el_own _))); (have hb2' : Below w.heap.size w w2 := below_tr hb1 hb2); clear ho2 hb2)
    | (go_at_call 38; (with_reducible refine (HJ.out _ _ HR2.out).mono ?_); rintro e w3 ⟨A3, c3, rfl, ho3, hb3⟩; (have hc3 : (q : Int) ≤ (c3 : Int) := own_cap ho3 HQM.out); (have HS3 : Hid (TnS w fr A n c A3 m c3 w3) := Lib.hid ⟨below_tr hb2' hb3, HR2.out.below hb3, ho3.bt⟩); clear ho3 hb3)
    | (go_at_call 46; (with_reducible refine (HSC.out _ _ _ HS3.out.own).mono ?_); rintro e w4 ⟨A4, c4, rfl, ho4, hb4⟩; (have HR4 := Lib.hid (ho4.rws (el_own _))); (have HS4 := Lib.hid (HS3.out.keep hb4)); clear ho4 hb4)
    | (go_at_call 45; (with_reducible refine (same_yes _ _ fr _ HR4.out HS4.out.rows).mono ?_); rintro e w5 ⟨rfl, hb5⟩; (have HS5 := Lib.hid (HS4.out.keep hb5)); clear hb5))
  have HT5 : Hid (Bt w5 (.slice A3 q c3) ((joinW fr).take q)) := Lib.hid (HS5.out.own.take q HQM.out)
  go_loopw [11, 12, 64] (fun s11 s12 i wr => ∃ k at_ : Nat, s11 = .int .i64 k ∧ s12 = .int .i64 at_ ∧ i = .int .i64 k ∧ Hid (FrontAt fr q k at_) ∧ wr = w5) (fun _ _ i _ => n - (intOf i).toNat)
  case atStart => exact ⟨0, 0, rfl, rfl, rfl, Lib.hid (FrontAt.start fr q), rfl⟩
  case round =>
    obtain ⟨k, at_, rfl, rfl, rfl, HFA, rfl⟩ := hrel
    have HK : Hid (at_ ≤ 1000000) := Lib.hid (by have := HFA.out.in_; have := HQM.out; have := HJ6.out; omega)
    by_cases hlt : k < n
    · have hd : decide ((k : Int) < (n : Int)) = true := decide_eq_true (by omega)
      obtain ⟨b, off, A7, c7, rfl, k1, k4⟩ := HS5.out.rows.at (k := k) (by have := HN.out; omega)
      have i0 : (0 : Int) ≤ (k : Int) := by omega
      have i1 : (k : Int) < (n : Int) := by omega
      have hrl : (rowAt fr k).length ≤ 65536 := HOK.out _ (rowAt_mem (by have := HN.out; omega))
      obtain ⟨len, hlen⟩ : ∃ len, (rowAt fr k).length = len := ⟨_, rfl⟩
      rw [hlen] at hrl k1 k4
      clear k4
      have b1 : (at_ : Int) ≤ 1000000 := by have := HK.out; omega
      have b2 : (len : Int) ≤ 65536 := by omega
      have b3 : (n : Int) ≤ 6 := by have := H6.out; omega
      by_cases hl : at_ + len + 8 ≤ q
      · have hd2 : decide ((at_ : Int) + (len : Int) + 8 ≤ (q : Int)) = true := decide_eq_true (by omega)
        have HFN : Hid (FrontAt fr q (k + 1) (at_ + (len + 8))) := Lib.hid (by
          have := HFA.out.next (by have := HN.out; omega) (by rw [hlen]; exact hl)
          rwa [hlen] at this)
        clear hl hrl
        go_wp2
        go_roundw
        case rel => exact ⟨k + 1, at_ + (len + 8), by go_num, by rw [show ((at_ + (len + 8) : Nat) : Int) = (at_ : Int) + ((len : Int) + 8) by omega], by go_num, HFN, trivial⟩
        case measure => simp [intOf]; omega
      · have hd2 : decide ((at_ : Int) + (len : Int) + 8 ≤ (q : Int)) = false := decide_eq_false (by omega)
        have HEN : Hid (FrontEnd fr q k at_) := Lib.hid (HFA.out.torn (by have := HM.out; have := HQM.out; omega) HOK.out (by have := HN.out; omega) (by rw [hlen]; exact hl))
        have KN : Hid (k ≤ n) := Lib.hid (by have := HFA.out.le; have := HN.out; omega)
        have hkc : (k : Int) ≤ (c : Int) := rws_cap HS5.out.rows KN.out
        have HSF : Hid (∀ (A : Option Addr) (c : Nat) (w : World), Bt w (.slice A q c) ((joinW fr).take q) → Calls Try.prog 46 #[.slice A q c] w fun e w' => ∃ A' c', e = .returned (.tuple #[.slice A' k c', .int .i64 (at_ : Int)]) ∧ OwnRs (fun W v bs => Own8 W w.heap.size v bs) w' w.heap.size (.slice A' k c') (fr.take k) ∧ Below w.heap.size w w') := Lib.hid (fun A c w hb => by
          have h := scan_at A c q ((joinW fr).take q) (fr.take k) at_ w hb (by rw [List.length_take]; have := HJ6.out; have := HM.out; omega) (HEN.out.held HOK.out) (HEN.out.ends HOK.out HFA.out.len)
          rwa [show (fr.take k).length = k by rw [List.length_take]; have := HFA.out.le; omega] at h)
        clear hl hrl
        by_cases he : at_ = q
        · have HWF : Hid (∀ (A : Option Addr) (c : Nat) (w : World), Bt w (.slice A q c) ((joinW fr).take q) → Calls Try.prog 47 #[.slice A q c] w fun e w' => e = .returned (.tuple #[.int .i64 (at_ : Int), .int .i64 0]) ∧ Below w.heap.size w w') := Lib.hid (fun A c w hb =>
            why_at A c q ((joinW fr).take q) at_ _ w hb (by rw [List.length_take]; have := HJ6.out; have := HM.out; omega) ((HEN.out.why HOK.out HFA.out.in_).trans (if_pos he)) (HEN.out.ends HOK.out HFA.out.len))
          have hbq : ((at_ : Int) == (q : Int)) = true := beq_iff_eq.2 (by omega)
          clear he
          go_wp2_with (first
            | (go_at_call 46; (with_reducible refine (HSF.out _ _ _ HT5.out).mono ?_); rintro e w6 ⟨A6, c6, rfl, ho6, hb6⟩; (have HR6 := Lib.hid (ho6.rws (el_own _))); (have HS6 := Lib.hid (HS5.out.keep hb6)); (have HT6 := Lib.hid (HT5.out.below hb6)); clear ho6 hb6)
            | (go_at_call 47; (with_reducible refine (HWF.out _ _ _ HT6.out).mono ?_); rintro e w7 ⟨rfl, hb7⟩; (have HS7 := Lib.hid (HS6.out.keep hb7)); (have HR7 := Lib.hid (HR6.out.below hb7)); clear hb7)
            | (go_at_call 45; (with_reducible refine (same_yes _ _ (fr.take k) _ HR7.out (HS7.out.rows.take k KN.out)).mono ?_); rintro e w8 ⟨rfl, hb8⟩; (have HS8 := Lib.hid (HS7.out.keep hb8)); clear hb8))
          go_ret
          exact ⟨rfl, HS8.out.below⟩
        · have HWF : Hid (∀ (A : Option Addr) (c : Nat) (w : World), Bt w (.slice A q c) ((joinW fr).take q) → Calls Try.prog 47 #[.slice A q c] w fun e w' => e = .returned (.tuple #[.int .i64 (at_ : Int), .int .i64 110]) ∧ Below w.heap.size w w') := Lib.hid (fun A c w hb =>
            why_at A c q ((joinW fr).take q) at_ _ w hb (by rw [List.length_take]; have := HJ6.out; have := HM.out; omega) ((HEN.out.why HOK.out HFA.out.in_).trans (if_neg he)) (HEN.out.ends HOK.out HFA.out.len))
          have hbq : ((at_ : Int) == (q : Int)) = false := beq_eq_false_iff_ne.2 (by omega)
          clear he
          go_wp2_with (first
            | (go_at_call 46; (with_reducible refine (HSF.out _ _ _ HT5.out).mono ?_); rintro e w6 ⟨A6, c6, rfl, ho6, hb6⟩; (have HR6 := Lib.hid (ho6.rws (el_own _))); (have HS6 := Lib.hid (HS5.out.keep hb6)); (have HT6 := Lib.hid (HT5.out.below hb6)); clear ho6 hb6)
            | (go_at_call 47; (with_reducible refine (HWF.out _ _ _ HT6.out).mono ?_); rintro e w7 ⟨rfl, hb7⟩; (have HS7 := Lib.hid (HS6.out.keep hb7)); (have HR7 := Lib.hid (HR6.out.below hb7)); clear hb7)
            | (go_at_call 45; (with_reducible refine (same_yes _ _ (fr.take k) _ HR7.out (HS7.out.rows.take k KN.out)).mono ?_); rintro e w8 ⟨rfl, hb8⟩; (have HS8 := Lib.hid (HS7.out.keep hb8)); clear hb8))
          go_ret
          exact ⟨rfl, HS8.out.below⟩
    · have hkn : fr.length = k := by have := HFA.out.le; have := HN.out; omega
      have hw := FrontAt.whole (fr := fr) (c := q) (at_ := at_) (by have := HFA.out; rwa [← hkn] at this) (by have := HM.out; have := HQM.out; omega)
      have he := hw.2
      have hd : decide ((k : Int) < (n : Int)) = false := decide_eq_false (by omega)
      have HEN : Hid (FrontEnd fr q k at_) := Lib.hid (by have := hw.1; rwa [hkn] at this)
      have KN : Hid (k ≤ n) := Lib.hid (by have := HFA.out.le; have := HN.out; omega)
      have hkc : (k : Int) ≤ (c : Int) := rws_cap HS5.out.rows KN.out
      have HSF : Hid (∀ (A : Option Addr) (c : Nat) (w : World), Bt w (.slice A q c) ((joinW fr).take q) → Calls Try.prog 46 #[.slice A q c] w fun e w' => ∃ A' c', e = .returned (.tuple #[.slice A' k c', .int .i64 (at_ : Int)]) ∧ OwnRs (fun W v bs => Own8 W w.heap.size v bs) w' w.heap.size (.slice A' k c') (fr.take k) ∧ Below w.heap.size w w') := Lib.hid (fun A c w hb => by
        have h := scan_at A c q ((joinW fr).take q) (fr.take k) at_ w hb (by rw [List.length_take]; have := HJ6.out; have := HM.out; omega) (HEN.out.held HOK.out) (HEN.out.ends HOK.out HFA.out.len)
        rwa [show (fr.take k).length = k by rw [List.length_take]; have := HFA.out.le; omega] at h)
      have HWF : Hid (∀ (A : Option Addr) (c : Nat) (w : World), Bt w (.slice A q c) ((joinW fr).take q) → Calls Try.prog 47 #[.slice A q c] w fun e w' => e = .returned (.tuple #[.int .i64 (at_ : Int), .int .i64 0]) ∧ Below w.heap.size w w') := Lib.hid (fun A c w hb =>
        why_at A c q ((joinW fr).take q) at_ _ w hb (by rw [List.length_take]; have := HJ6.out; have := HM.out; omega) ((HEN.out.why HOK.out HFA.out.in_).trans (if_pos he)) (HEN.out.ends HOK.out HFA.out.len))
      have hbq : ((at_ : Int) == (q : Int)) = true := beq_iff_eq.2 (by omega)
      clear he hw hkn
      go_wp2_with (first
        | (go_at_call 46; (with_reducible refine (HSF.out _ _ _ HT5.out).mono ?_); rintro e w6 ⟨A6, c6, rfl, ho6, hb6⟩; (have HR6 := Lib.hid (ho6.rws (el_own _))); (have HS6 := Lib.hid (HS5.out.keep hb6)); (have HT6 := Lib.hid (HT5.out.below hb6)); clear ho6 hb6)
        | (go_at_call 47; (with_reducible refine (HWF.out _ _ _ HT6.out).mono ?_); rintro e w7 ⟨rfl, hb7⟩; (have HS7 := Lib.hid (HS6.out.keep hb7)); (have HR7 := Lib.hid (HR6.out.below hb7)); clear hb7)
        | (go_at_call 45; (with_reducible refine (same_yes _ _ (fr.take k) _ HR7.out (HS7.out.rows.take k KN.out)).mono ?_); rintro e w8 ⟨rfl, hb8⟩; (have HS8 := Lib.hid (HS7.out.keep hb8)); clear hb8))
      go_ret
      exact ⟨rfl, HS8.out.below⟩
theorem torn_calls (v : Value) (rows : List (List B8)) (cut : Int) (w : World) (hv : RwsA w v rows) :
    Calls Try.prog 7 #[v, .int .i64 cut] w fun e w' => e = .returned (.bool true) ∧ Below w.heap.size w w' := by
  cases h : okRows (fewR rows) with
  | true => exact torn_yes v rows cut w hv h
  | false => exact torn_no v rows cut w hv h
end Go.Proofs.Ytnhmhnejglpijaa
