/- AddLine of the reference. Printed by gen_adds.py. -/
import Derived.Test.YtofombleojbehaaDoorAddL
namespace Go.Proofs.YtofombleojbehaaDoor
open Go.RowKit
set_option linter.unusedVariables false

set_option maxRecDepth 100000 in
set_option maxHeartbeats 8000000 in
theorem specAddLine_calls (A : Option Addr) (n c : Nat) (xs : List LineZ) (d m : Int) (t : ByteArray) (w : World) (h : RdK kLine w A n xs) (hd : I64 d) (hm : I64 m) (ht0 : t.size ≤ 9223372036854775807) (hn : n ≤ 1048576) (ht : t.size ≤ 1048576) (hx : MidL xs) :
    Calls Tryd.prog 43 #[.slice A n c, .int .i64 d, .int .i64 m, .string t] w (LinPost (addV xs d m t) (addC xs d m t) w) := by
  have HL := hide h.2.1
  have HFI := hide h.2.2
  have HO := hide (l25Ok_calls A n c xs w h hn hx)
  have HD : Hid (∀ W, Calls Tryd.prog 67 #[.int .i64 d] W fun e w' => e = .returned (.bool (dayB d)) ∧ W = w') := l21Day_calls d
  have HI : Hid (∀ n l h W, Calls Tryd.prog 51 #[.int .i64 n, .int .i64 l, .int .i64 h] W fun e w' => e = .returned (.bool (withinB n l h)) ∧ W = w') := l00In_calls
  have HMC : Hid (withinB m 0 1439 = minB m) := rfl
  have HX : Hid (∀ W, Calls Tryd.prog 68 #[.string t] W fun e w' => e = .returned (.bool (textB t)) ∧ Below W.heap.size W w') := fun W => l25Text_calls t W ht
  rcases b_cases (validL xs) with hv | hv
  · have HV := hide (add_log (xs := xs) (d := d) (m := m) (t := t) (logged_bad hv) (by decide))
    rw [hv] at HO
    clear hv
    go_enter Tryd.func43, Tryd.ntmps43
    go_wp2_with fail
    refine HO.out.mono ?_
    rintro e w1 ⟨rfl, hb1⟩
    go_wp2
    go_ret2
    exact lin_none HV.out.2 HV.out.1 hb1
  rw [hv] at HO
  rcases b_cases (dayB d) with hq | hq
  · have HV := hide (add_log (xs := xs) (d := d) (m := m) (t := t) (c := 2) (by rw [hq, Bool.false_and]; exact logged_fine hv) (by decide))
    rw [hq] at HD
    clear hv hq
    go_enter Tryd.func43, Tryd.ntmps43
    go_wp2_with fail
    refine HO.out.mono ?_
    rintro e w1 ⟨rfl, hb1⟩
    go_wp2_with fail
    refine (HD.out _).mono ?_
    rintro e w2 ⟨rfl, rfl⟩
    go_wp2
    go_ret2
    exact lin_none HV.out.2 HV.out.1 hb1
  rcases b_cases (minB m) with hq2 | hq2
  · have HV := hide (add_log (xs := xs) (d := d) (m := m) (t := t) (c := 2) (by rw [hq2, Bool.and_false]; exact logged_fine hv) (by decide))
    rw [hq] at HD
    rw [hq2] at HMC
    clear hv hq hq2
    go_enter Tryd.func43, Tryd.ntmps43
    go_wp2_with fail
    refine HO.out.mono ?_
    rintro e w1 ⟨rfl, hb1⟩
    go_wp2_with fail
    refine (HD.out _).mono ?_
    rintro e w2 ⟨rfl, rfl⟩
    go_wp2_with fail
    refine (HI.out _ _ _ _).mono ?_
    rw [HMC.out]
    rintro e w2 ⟨rfl, rfl⟩
    go_wp2
    go_ret2
    exact lin_none HV.out.2 HV.out.1 hb1
  rcases b_cases (textB t) with hq3 | hq3
  · have HV := hide (add_log (xs := xs) (d := d) (m := m) (t := t) (c := 9) (by rw [hq, hq2, hq3]; exact logged_form hv) (by decide))
    rw [hq] at HD
    rw [hq2] at HMC
    rw [hq3] at HX
    clear hv hq hq2 hq3
    go_enter Tryd.func43, Tryd.ntmps43
    go_wp2_with fail
    refine HO.out.mono ?_
    rintro e w1 ⟨rfl, hb1⟩
    go_wp2_with fail
    refine (HD.out _).mono ?_
    rintro e w2 ⟨rfl, rfl⟩
    go_wp2_with fail
    refine (HI.out _ _ _ _).mono ?_
    rw [HMC.out]
    rintro e w2 ⟨rfl, rfl⟩
    go_wp2_with fail
    refine (HX.out _).mono ?_
    rintro e w2 ⟨rfl, hb2⟩
    go_wp2
    go_ret2
    exact lin_none HV.out.2 HV.out.1 (hb1.trans (hb2.mono hb1.size))
  have hz : loggedZ xs (dayB d && minB m) (textB t) = 0 := by rw [hq, hq2, hq3]; exact logged_ok hv
  obtain ⟨hlog, hmade⟩ := valid_parts hv
  have HMD := hide hmade
  have h40 := log_len hlog
  rw [h.2.1] at h40
  have HLATE : Hid (lastL xs ⟨d, m, t, 0⟩ = true → addC xs d m t = 6 ∧ addV xs d m t = []) := add_late hz
  have HFULL : Hid (lastL xs ⟨d, m, t, 0⟩ = false → 40 ≤ xs.length → addC xs d m t = 5 ∧ addV xs d m t = []) := add_full hz
  have HOK : Hid (lastL xs ⟨d, m, t, 0⟩ = false → xs.length < 40 → addC xs d m t = 0 ∧ addV xs d m t = xs ++ [⟨d, m, t, (sealZ (sealF 65535 xs) d m t : Nat)⟩]) := add_ok hz
  have hs6 := sealF_lt xs (n := 65535) (by omega)
  have HSL : Hid (∀ W, Calls Tryd.prog 69 #[.int .i64 (sealF 65535 xs : Nat), .int .i64 d, .int .i64 m, .string t] W fun e w' => e = .returned (.int .i64 (sealZ (sealF 65535 xs) d m t : Nat)) ∧ Below W.heap.size W w') := fun W => l25Seal_calls (sealF 65535 xs) d m t W hd hm ht hs6
  have hz6 := sealZ_lt (n := sealF 65535 xs) d m t hs6
  have HLST : Hid (∀ l k, xs.length = k + 1 → xs[k]? = some l → l.crc = (sealF 65535 xs : Nat)) := fun l k e1 e2 => valid_last HMD.out e1 e2
  have HNIL : Hid (xs.length = 0 → sealF 65535 xs = 65535) := fun e => by rw [List.eq_nil_of_length_eq_zero e]; rfl
  rw [hq] at HD
  rw [hq2] at HMC
  rw [hq3] at HX
  clear hz hv hq hq2 hq3 hlog hmade HMD
  generalize hs : sealF 65535 xs = s at *
  clear hs
  generalize hzz : sealZ s d m t = z at *
  clear hzz
  go_enter Tryd.func43, Tryd.ntmps43
  go_wp2_with fail
  refine HO.out.mono ?_
  rintro e w1 ⟨rfl, hb1⟩
  go_wp2_with fail
  refine (HD.out _).mono ?_
  rintro e w2 ⟨rfl, rfl⟩
  go_wp2_with fail
  refine (HI.out _ _ _ _).mono ?_
  rw [HMC.out]
  rintro e w2 ⟨rfl, rfl⟩
  go_wp2_with fail
  refine (HX.out _).mono ?_
  rintro e w2 ⟨rfl, hb2⟩
  have hbw := hb1.trans (hb2.mono hb1.size)
  have h2 := h.below hbw (Nat.le_refl _)
  clear HO HD HI HMC HX hb1 hb2 h
  by_cases hn0 : n = 0
  · have HLA := hide (last_none (x := ⟨d, m, t, 0⟩) (by rw [HL.out]; exact hn0))
    obtain rfl : s = 65535 := HNIL.out (by rw [HL.out]; exact hn0)
    obtain ⟨w3, rfl⟩ : ∃ w3 : World, w3 = w2 := ⟨_, rfl⟩
    have h3 := h2
    subst hn0
    have HSL2 : Hid (∀ W, Calls Tryd.prog 69 #[.int .i64 65535, .int .i64 d, .int .i64 m, .string t] W fun e w' => e = .returned (.int .i64 (z : Nat)) ∧ Below W.heap.size W w') := HSL.out
    clear HSL HNIL HLST
    have HV := hide (HOK.out HLA.out (by rw [HL.out]; omega))
    have g1 : ((0 : Int) == 40) = false := by decide
    have hlit := World.ownsRow_lit (base := w3.heap.size) (e := 37) (size := 4) w3 #[] 0 (Nat.le_refl _) (by simp) rfl
    have hba : Below w3.heap.size w3 (w3.alloc (.cells #[] 37)) := (Below.refl _ _).alloc (Nat.le_refl _) _
    have HO0 := hide (And.intro hlit (And.intro (h3.1.below hba (Nat.le_refl _)) hba))
    clear hlit hba h3
    go_wp2_with (at_builtin; refine appsLine rfl _ _ rfl w3.heap.size (.slice (some ⟨w3.heap.size, 0, none⟩) 0 0) 0 [] rfl HO0.out.1 A 0 c xs rfl HO0.out.2.1 (by omega) (by simp) ?_; intro v4 w4 hown4 hb4 hz4)
    rw [Nat.zero_add, List.nil_append] at hown4
    obtain ⟨A1, c1, rfl⟩ := own_slice hown4
    have hb5 := HO0.out.2.2.trans hb4
    have HO1 := hide hown4
    have hz4x : w3.heap.size ≤ w4.heap.size := hb5.size
    clear hown4 hb4 HO0 hz4
    go_wp2_with fail
    refine (HSL2.out _).mono ?_
    rintro e w5 ⟨rfl, hb6⟩
    have HO2 := hide (own_below HO1.out hb6 (Nat.le_refl _))
    have hb7 := hb5.trans (hb6.mono hz4x)
    have hz7 := hb7.size
    go_wp2_with (at_builtin; refine appLine rfl _ _ rfl w3.heap.size (.slice A1 0 c1) 0 xs ⟨d, m, t, (z : Int)⟩ rfl HO2.out (by first | rfl | (simp; rfl)) (by omega) (by omega) ?_; intro v8 w8 hown8 hb8 hz8)
    obtain ⟨A8, c8, rfl⟩ := own_slice hown8
    have hb9 := hb7.trans hb8
    have HR : Hid (FrK kLine w8 w.heap.size w8.heap.size 37 A8 (0 + 1) (xs ++ [⟨d, m, t, (z : Int)⟩])) := (FrK.of_own (K := kLine) hown8 (by rw [List.length_append, HL.out]; rfl) (add_fine HFI.out hd hm ht0 (nat_I64 hz6))).mono hbw.size (Nat.le_refl _)
    have hbx := hbw.trans (hb9.mono hbw.size)
    clear hown8 hb8 hb6 hb5 hb7 hb9
    go_wp2
    go_ret2
    exact ⟨A8, 0 + 1, c8, ret_two rfl (congrArg (Value.int .i64) HV.out.1.symm), by rw [HV.out.2]; exact HR.out, by omega, hbx⟩
  · obtain ⟨k, rfl⟩ : ∃ k, n = k + 1 := ⟨n - 1, by omega⟩
    clear hn0
    obtain ⟨b, off, p0, p1, p2, p3, rfl, hbW, hy, d0, d1, d2, d3, _, _, _, _, _, _, _⟩ := h2.atLine (show k < k + 1 by omega)
    have HLS := hide (last_some (x := ⟨d, m, t, 0⟩) HL.out hy.out)
    have hp := HLST.out _ k HL.out hy.out
    simp only at hp
    subst hp
    have HSL2 := hide HSL.out
    clear HSL HNIL HLST hy
    have hB : Below w2.heap.size w2 (w2.alloc (.cells #[.int .i64 p0, .int .i64 p1, .string p2, .int .i64 (s : Int)] 37)) := (Below.refl _ _).alloc (Nat.le_refl _) _
    have HZ : Hid (laterB ⟨p0, p1, p2, (s : Int)⟩ ⟨d, m, t, 0⟩ = (decide (d < p0) || (decide (p0 = d) && decide (m < p1)))) := rfl
    rcases b_cases (decide (d < p0)) with h1 | h1
    case inr =>
      rw [h1] at HZ
      have HV := hide (HLATE.out (HLS.out.trans HZ.out))
      go_wp2
      go_ret2
      exact lin_none HV.out.2 HV.out.1 (hbw.trans (hB.mono hbw.size))
    rw [h1] at HZ
    obtain ⟨w3, hw3⟩ : ∃ w3, w3 = w2.alloc (.cells #[.int .i64 p0, .int .i64 p1, .string p2, .int .i64 (s : Int)] 37) := ⟨_, rfl⟩
    rw [← hw3] at hB
    have h3 := h2.below hB (Nat.le_refl _)
    have hbw3 := hbw.trans (hB.mono hbw.size)
    rcases b_cases (decide (p0 = d)) with q | q
    · rw [q] at HZ
      have h2' : (p0 == d) = false := by simpa using q
      have HLA := hide (HLS.out.trans HZ.out)
      clear q
      by_cases hf : k + 1 = 40
      · have HV := hide (HFULL.out HLA.out (by rw [HL.out]; omega))
        have g1 : ((k : Int) + 1 == 40) = true := by simp; omega
        clear hf
        go_wp2
        go_ret2
        exact lin_none HV.out.2 HV.out.1 (by rw [← hw3]; exact hbw3)
      · have g1 : ((k : Int) + 1 == 40) = false := by simp; omega
        have hf2 : k + 1 < 40 := by omega
        clear hf
        have hw3s : w3.heap.size = w2.heap.size + 1 := by rw [hw3]; simp
        have HV := hide (HOK.out HLA.out (by rw [HL.out]; omega))
        clear hbw
        have hlit := World.ownsRow_lit (base := w3.heap.size) (e := 37) (size := 4) w3 #[] 0 (Nat.le_refl _) (by simp) rfl
        have hba : Below w3.heap.size w3 (w3.alloc (.cells #[] 37)) := (Below.refl _ _).alloc (Nat.le_refl _) _
        have HO0 := hide (And.intro hlit (And.intro (h3.1.below hba (Nat.le_refl _)) hba))
        clear hlit hba h3
        go_wp2_with (at_builtin; rw [← hw3]; refine appsLine rfl _ _ rfl w3.heap.size (.slice (some ⟨w3.heap.size, 0, none⟩) 0 0) 0 [] (by rw [hw3s]; rfl) HO0.out.1 (some ⟨b, off, none⟩) (k + 1) c xs rfl HO0.out.2.1 (by omega) (by simp) ?_; intro v4 w4 hown4 hb4 hz4)
        rw [Nat.zero_add, List.nil_append] at hown4
        obtain ⟨A1, c1, rfl⟩ := own_slice hown4
        have hb5 := HO0.out.2.2.trans hb4
        have HO1 := hide hown4
        have hz4x : w3.heap.size ≤ w4.heap.size := hb5.size
        clear hown4 hb4 HO0 hz4
        go_wp2_with fail
        refine (HSL2.out _).mono ?_
        rintro e w5 ⟨rfl, hb6⟩
        have HO2 := hide (own_below HO1.out hb6 (Nat.le_refl _))
        have hb7 := hb5.trans (hb6.mono hz4x)
        have hz7 := hb7.size
        go_wp2_with (at_builtin; refine appLine rfl _ _ rfl w3.heap.size (.slice A1 (k + 1) c1) (k + 1) xs ⟨d, m, t, (z : Int)⟩ rfl HO2.out (by first | rfl | (simp; rfl)) (by omega) (by omega) ?_; intro v8 w8 hown8 hb8 hz8)
        obtain ⟨A8, c8, rfl⟩ := own_slice hown8
        have hb9 := hb7.trans hb8
        have HR : Hid (FrK kLine w8 w.heap.size w8.heap.size 37 A8 ((k + 1) + 1) (xs ++ [⟨d, m, t, (z : Int)⟩])) := (FrK.of_own (K := kLine) hown8 (by rw [List.length_append, HL.out]; rfl) (add_fine HFI.out hd hm ht0 (nat_I64 hz6))).mono hbw3.size (Nat.le_refl _)
        have hbx := hbw3.trans (hb9.mono hbw3.size)
        clear hown8 hb8 hb6 hb5 hb7 hb9
        go_wp2
        go_ret2
        exact ⟨A8, (k + 1) + 1, c8, ret_two rfl (congrArg (Value.int .i64) HV.out.1.symm), by rw [HV.out.2]; exact HR.out, by omega, hbx⟩
    · rw [q] at HZ
      obtain rfl : d = p0 := by simpa [eq_comm] using q
      clear q
      rcases b_cases (decide (m < p1)) with q | q
      case inr =>
        rw [q] at HZ
        have HV := hide (HLATE.out (HLS.out.trans HZ.out))
        go_wp2
        go_ret2
        exact lin_none HV.out.2 HV.out.1 (by rw [← hw3]; exact hbw3)
      rw [q] at HZ
      have HLA := hide (HLS.out.trans HZ.out)
      by_cases hf : k + 1 = 40
      · have HV := hide (HFULL.out HLA.out (by rw [HL.out]; omega))
        have g1 : ((k : Int) + 1 == 40) = true := by simp; omega
        clear hf
        go_wp2
        go_ret2
        exact lin_none HV.out.2 HV.out.1 (by rw [← hw3]; exact hbw3)
      · have g1 : ((k : Int) + 1 == 40) = false := by simp; omega
        have hf2 : k + 1 < 40 := by omega
        clear hf
        have hw3s : w3.heap.size = w2.heap.size + 1 := by rw [hw3]; simp
        have HV := hide (HOK.out HLA.out (by rw [HL.out]; omega))
        clear hbw
        have hlit := World.ownsRow_lit (base := w3.heap.size) (e := 37) (size := 4) w3 #[] 0 (Nat.le_refl _) (by simp) rfl
        have hba : Below w3.heap.size w3 (w3.alloc (.cells #[] 37)) := (Below.refl _ _).alloc (Nat.le_refl _) _
        have HO0 := hide (And.intro hlit (And.intro (h3.1.below hba (Nat.le_refl _)) hba))
        clear hlit hba h3
        go_wp2_with (at_builtin; rw [← hw3]; refine appsLine rfl _ _ rfl w3.heap.size (.slice (some ⟨w3.heap.size, 0, none⟩) 0 0) 0 [] (by rw [hw3s]; rfl) HO0.out.1 (some ⟨b, off, none⟩) (k + 1) c xs rfl HO0.out.2.1 (by omega) (by simp) ?_; intro v4 w4 hown4 hb4 hz4)
        rw [Nat.zero_add, List.nil_append] at hown4
        obtain ⟨A1, c1, rfl⟩ := own_slice hown4
        have hb5 := HO0.out.2.2.trans hb4
        have HO1 := hide hown4
        have hz4x : w3.heap.size ≤ w4.heap.size := hb5.size
        clear hown4 hb4 HO0 hz4
        go_wp2_with fail
        refine (HSL2.out _).mono ?_
        rintro e w5 ⟨rfl, hb6⟩
        have HO2 := hide (own_below HO1.out hb6 (Nat.le_refl _))
        have hb7 := hb5.trans (hb6.mono hz4x)
        have hz7 := hb7.size
        go_wp2_with (at_builtin; refine appLine rfl _ _ rfl w3.heap.size (.slice A1 (k + 1) c1) (k + 1) xs ⟨d, m, t, (z : Int)⟩ rfl HO2.out (by first | rfl | (simp; rfl)) (by omega) (by omega) ?_; intro v8 w8 hown8 hb8 hz8)
        obtain ⟨A8, c8, rfl⟩ := own_slice hown8
        have hb9 := hb7.trans hb8
        have HR : Hid (FrK kLine w8 w.heap.size w8.heap.size 37 A8 ((k + 1) + 1) (xs ++ [⟨d, m, t, (z : Int)⟩])) := (FrK.of_own (K := kLine) hown8 (by rw [List.length_append, HL.out]; rfl) (add_fine HFI.out hd hm ht0 (nat_I64 hz6))).mono hbw3.size (Nat.le_refl _)
        have hbx := hbw3.trans (hb9.mono hbw3.size)
        clear hown8 hb8 hb6 hb5 hb7 hb9
        go_wp2
        go_ret2
        exact ⟨A8, (k + 1) + 1, c8, ret_two rfl (congrArg (Value.int .i64) HV.out.1.symm), by rw [HV.out.2]; exact HR.out, by omega, hbx⟩

end Go.Proofs.YtofombleojbehaaDoor
