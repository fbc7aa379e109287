/- LinesWith of the program and of the reference. -/
import Derived.Test.YtofombleojbehaaDoorLinesF
import Derived.Deep.RegionHeld3
namespace Go.Proofs.YtofombleojbehaaDoor
open Go.RowKit
set_option linter.unusedVariables false

/-- Has a line a word? -/
def hasW (wd : ByteArray) (x : LineZ) : Bool := inB (splitS 32 x.text) wd
def withV (xs : List LineZ) (wd : ByteArray) : List Int := if loggedZ xs true (wordB wd) = 0 then linesK (hasW wd) xs xs.length else []
theorem withV_bad {xs : List LineZ} {wd : ByteArray} {c : Int} (h : loggedZ xs true (wordB wd) = c) (hc : c ≠ 0) : withV xs wd = [] := by unfold withV; rw [h, if_neg hc]
theorem withV_ok {xs : List LineZ} {wd : ByteArray} {n : Nat} (hl : xs.length = n) (h : loggedZ xs true (wordB wd) = 0) : withV xs wd = linesK (hasW wd) xs n := by unfold withV; rw [h, if_pos rfl, hl]

set_option maxHeartbeats 2000000 in
theorem linesWith1_calls (x : LineZ) (wd : ByteArray) (b : Nat) (w : World) (hm : TabM w) (hs : x.text.size ≤ 1048000) (hb : b < w.heap.size) (hc : w.cell? ⟨b, 0, none⟩ = some (.string wd)) :
    Calls Tryd.prog 91 #[.agg #[.int .i64 x.day, .int .i64 x.minute, .string x.text, .int .i64 x.crc], .pointer (some ⟨b, 0, none⟩)] w fun e w' => e = .returned (.bool (hasW wd x)) ∧ Below w.heap.size w w' := by
  obtain ⟨f0, f1, f2, f3⟩ := x
  simp only at hs ⊢
  have HZ : Hid (hasW wd ⟨f0, f1, f2, f3⟩ = inB (splitS 32 f2) wd) := rfl
  obtain ⟨W0, hW0⟩ : ∃ W0, W0 = w.alloc (.cells #[.int .i64 f0, .int .i64 f1, .string f2, .int .i64 f3] 37) := ⟨_, rfl⟩
  have hB : Below w.heap.size w W0 := by rw [hW0]; exact (Below.refl _ _).alloc (Nat.le_refl _) _
  have e2 : W0.cell? ⟨w.heap.size, 2, none⟩ = some (.string f2) := by rw [hW0]; simp
  have ec := (hB.cell (p := ⟨b, 0, none⟩) hb).trans hc
  have hz : w.heap.size < W0.heap.size := by rw [hW0]; simp
  have hbz : b < W0.heap.size := by omega
  have HSP : Hid (Calls Tryd.prog 93 #[.string f2, .string ⟨#[32]⟩] W0.drew (PartsPost (splitS 32 f2) W0.drew)) := split_calls f2 W0.drew (hm.here hB).drew (by omega)
  have HPL := hide (splitS_le 32 f2)
  have HPP := hide (splitS_part 32 f2)
  have HCN : Hid (∀ A n c W, RdK kB W A n (splitS 32 f2) → n ≤ 1048576 → Calls Tryd.prog 92 #[.slice A n c, .string wd] W fun e w' => e = .returned (.bool (inB (splitS 32 f2) wd)) ∧ W = w') := fun A n c W h hn => containsB_calls A n c _ wd W h hn
  generalize splitS 32 f2 = ps at *
  go_enter Tryd.func91, Tryd.ntmps91
  go_wp2
  rw [← hW0]
  clear hW0
  go_region_held3 (fun w' => w'.cell? ⟨w.heap.size, 2, none⟩ = some (.string f2) ∧ w'.cell? ⟨b, 0, none⟩ = some (.string wd))
    (first | exact ⟨e2, ec⟩ | exact ⟨(hb1.cell (p := ⟨w.heap.size, 2, none⟩) hz).trans e2, (hb1.cell (p := ⟨b, 0, none⟩) hbz).trans ec⟩)
    (first
      | ((with_reducible refine HSP.out.mono ?_); rintro e w1 ⟨A1, n1, c1, rfl, hown, hl, hb1⟩; have hn1 : n1 ≤ 1048576 := (by have := HPL.out; omega); have hr1 := RdK.of_own (K := kB) hown hl (fun x hx => Nat.le_trans (HPP.out x hx) (by omega)))
      | ((with_reducible refine (HCN.out _ _ _ _ hr1 hn1).mono ?_); rintro e w2 ⟨rfl, rfl⟩)
      | ((with_reducible refine (HCN.out _ _ _ _ (hr1.drewN 1) hn1).mono ?_); rintro e w2 ⟨rfl, rfl⟩)
      | fail)
  all_goals
    go_wp2
    go_ret
    exact ⟨ret_bool HZ.out.symm, (by first | exact hB.drew.trans (hb1.mono hB.size) | exact (hB.drew.trans (hb1.mono hB.size)).drew)⟩

set_option maxHeartbeats 2000000 in
theorem implLinesWith_calls (A : Option Addr) (n c : Nat) (xs : List LineZ) (wd : ByteArray) (w : World) (hT : TabPM w) (h : RdK kLine w A n xs) (hd0 : wd.size ≤ 9223372036854775807) (hn : n ≤ 1048576) (hd : wd.size ≤ 1048576) (hx : MidL xs) :
    Calls Tryd.prog 46 #[.slice A n c, .string wd] w (NumsPost (withV xs wd) (loggedZ xs true (wordB wd)) w) := by
  have HL := hide h.2.1
  obtain ⟨W0, hW0⟩ : ∃ W0, W0 = w.alloc (.cells #[.string wd] 9) := ⟨_, rfl⟩
  have hB : Below w.heap.size w W0 := by rw [hW0]; exact (Below.refl _ _).alloc (Nat.le_refl _) _
  have e0 : W0.cell? ⟨w.heap.size, 0, none⟩ = some (.string wd) := by rw [hW0]; simp
  have hz : w.heap.size < W0.heap.size := by rw [hW0]; simp
  have h0 := h.below hB (Nat.le_refl _)
  have HW := hide (isWord_calls wd W0 hd)
  have HM : Hid (∀ W, Below W0.heap.size W0 W → Calls Tryd.prog 83 #[.slice A n c, .bool true, .bool (wordB wd)] W fun e w' => e = .returned (.int .i64 (loggedZ xs true (wordB wd))) ∧ Below W.heap.size W w') := fun W hW => logged_calls A n c xs true (wordB wd) W ((hT.here hB).here hW) (h0.below hW (Nat.le_refl _)) hn hx
  have HSH : Hid (loggedZ xs true (wordB wd) = 0 → ShortL xs) := by
    intro h
    rcases b_cases (validL xs) with hv | hv
    · rw [logged_bad hv] at h; omega
    · unfold validL at hv
      rw [Bool.and_eq_true] at hv
      exact log_short hv.1
  generalize hcc : loggedZ xs true (wordB wd) = cc at *
  have HC := hide hcc
  clear hcc
  by_cases hc0 : cc = 0
  · have HS := hide (HSH.out hc0)
    subst hc0
    have HV := hide (withV_ok HL.out HC.out)
    go_enter Tryd.func46, Tryd.ntmps46
    go_wp2_with fail
    rw [← hW0]
    clear hW0
    go_wp2_with fail
    refine HW.out.mono ?_
    rintro e w1 ⟨rfl, hb1⟩
    go_wp2_with fail
    refine (HM.out w1 hb1).mono ?_
    rintro e w2 ⟨rfl, hb2⟩
    have hb12 := hb1.trans (hb2.mono hb1.size)
    have h2 := h0.below hb12 (Nat.le_refl _)
    have e2 := (hb12.cell (p := ⟨w.heap.size, 0, none⟩) hz).trans e0
    have hz2 := Nat.lt_of_lt_of_le hz hb12.size
    have hbw := hB.trans (hb12.mono hB.size)
    have HTM : Hid (TabM w2) := hT.2.here hbw
    have HF := hide (linesFor_calls A n c xs 91 #[.pointer (some ⟨w.heap.size, 0, none⟩)] (hasW wd) w2 h2 hn Tryd.call91 (fun W x hW hxm => linesWith1_calls x wd w.heap.size W (HTM.out.here hW) (Nat.le_trans (HS.out x hxm) (by omega)) (Nat.lt_of_lt_of_le hz2 hW.size) ((hW.cell (p := ⟨w.heap.size, 0, none⟩) hz2).trans e2)))
    go_wp2_with fail
    refine HF.out.mono ?_
    rintro e w3 ⟨A3, n3, c3, rfl, hown, hl3, hb3⟩
    have hn3 : n3 ≤ 1048576 := by have := linesK_len (hasW wd) xs n; omega
    have HR : Hid (FrI w3 w.heap.size w3.heap.size 2 A3 n3 (withV xs wd)) := by
      have h1 := FrI.of_own hown (linesK_fine _ _ _ hn)
      rw [← HV.out] at h1
      exact ⟨h1.1.mono hbw.size (Nat.le_refl _), h1.2⟩
    clear hown hl3
    go_wp2
    go_ret2
    exact ⟨A3, n3, c3, rfl, HR.out, hn3, hbw.trans (hb3.mono hbw.size)⟩
  · have HV := hide (withV_bad HC.out hc0)
    have hne : (cc != 0) = true := by simpa using hc0
    clear hc0
    go_enter Tryd.func46, Tryd.ntmps46
    go_wp2_with fail
    rw [← hW0]
    clear hW0
    go_wp2_with fail
    refine HW.out.mono ?_
    rintro e w1 ⟨rfl, hb1⟩
    go_wp2_with fail
    refine (HM.out w1 hb1).mono ?_
    rintro e w2 ⟨rfl, hb2⟩
    have hb12 := hb1.trans (hb2.mono hb1.size)
    have hbw := hB.trans (hb12.mono hB.size)
    go_wp2
    go_ret2
    exact nums_none HV.out rfl hbw

set_option maxHeartbeats 8000000 in
theorem specLinesWith_calls (A : Option Addr) (n c : Nat) (xs : List LineZ) (wd : ByteArray) (w : World) (h : RdK kLine w A n xs) (hd0 : wd.size ≤ 9223372036854775807) (hn : n ≤ 1048576) (hd : wd.size ≤ 1048576) (hx : MidL xs) :
    Calls Tryd.prog 45 #[.slice A n c, .string wd] w (NumsPost (withV xs wd) (loggedZ xs true (wordB wd)) w) := by
  have HL := hide h.2.1
  have HM := hide (l25Ok_calls A n c xs w h hn hx)
  rcases b_cases (validL xs) with hv | hv
  · have HC := hide (logged_bad (a := true) (b := wordB wd) hv)
    have HV := hide (withV_bad HC.out (by decide))
    rw [hv] at HM
    clear hv
    go_enter Tryd.func45, Tryd.ntmps45
    go_wp2_with fail
    refine HM.out.mono ?_
    rintro e w1 ⟨rfl, hb1⟩
    go_wp2
    go_ret2
    exact nums_none HV.out HC.out hb1
  have HD : Hid (∀ W, Calls Tryd.prog 88 #[.string wd] W fun e w' => e = .returned (.bool (wordB wd)) ∧ W = w') := fun W => l25Word_calls wd W hd0
  rcases b_cases (wordB wd) with hq | hq
  · have HC : Hid (loggedZ xs true (wordB wd) = 9) := by unfold Hid; rw [hq]; exact logged_form hv
    have HV := hide (withV_bad HC.out (by decide))
    rw [hv] at HM
    rw [hq] at HD
    clear hv hq
    go_enter Tryd.func45, Tryd.ntmps45
    go_wp2_with fail
    refine HM.out.mono ?_
    rintro e w1 ⟨rfl, hb1⟩
    go_wp2_with fail
    refine (HD.out _).mono ?_
    rintro e w2 ⟨rfl, rfl⟩
    go_wp2
    go_ret2
    exact nums_none HV.out HC.out hb1
  have HC : Hid (loggedZ xs true (wordB wd) = 0) := by unfold Hid; rw [hq]; exact logged_ok hv
  have HV := hide (withV_ok HL.out HC.out)
  have HS : Hid (ShortL xs) := by
    unfold validL at hv
    rw [Bool.and_eq_true] at hv
    exact log_short hv.1
  rw [hv] at HM
  rw [hq] at HD
  clear hv hq
  go_enter Tryd.func45, Tryd.ntmps45
  go_wp2_with fail
  refine HM.out.mono ?_
  rintro e w1 ⟨rfl, hb1⟩
  go_wp2_with fail
  refine (HD.out _).mono ?_
  rintro e w2 ⟨rfl, rfl⟩
  have hlit := World.ownsRow_lit (base := w1.heap.size) (e := 2) (size := 1) w1 #[] 0 (Nat.le_refl _) (by simp) rfl
  have hba : Below w1.heap.size w1 (w1.alloc (.cells #[] 2)) := (Below.refl _ _).alloc (Nat.le_refl _) _
  have h1 := h.below hb1 (Nat.le_refl _)
  have HO0 := hide (And.intro hlit hba)
  clear hlit hba h
  go_wp2
  go_loopw [6, 7] (fun a i wr => ∃ (k m : Nat), k ≤ n ∧ m ≤ k ∧ i = .int .i64 k ∧ Hid ((linesK (hasW wd) xs k).length = m ∧ wr.ownsRow w1.heap.size 2 1 a m (cI (linesK (hasW wd) xs k))) ∧ Below w1.heap.size w1 wr) (fun _ i _ => n - (intOf i).toNat)
  case atStart => exact ⟨0, 0, Nat.zero_le _, Nat.le_refl _, rfl, ⟨rfl, by simpa [cI, linesK] using HO0.out.1⟩, HO0.out.2⟩
  case round =>
    obtain ⟨k, m, hk, hm, rfl, HO, hb⟩ := hrel
    obtain ⟨wo, rfl⟩ : ∃ wo : World, wo = wr := ⟨_, rfl⟩
    by_cases hlt : k < n
    · obtain ⟨b, off, f0, f1, f2, f3, rfl, hbl, hx, hc0, hc1, hc2, hc3, _, _, _, _, _, _, _⟩ := (h1.below hb (Nat.le_refl _)).atLine hlt
      have hts := HS.out _ (List.mem_of_getElem? hx.out)
      simp only at hts
      have HSP := hide (l01Split_calls f2 32 wo (by omega))
      have HPL := hide (splitS_le 32 f2)
      have HPP := hide (splitS_part 32 f2)
      have HZ : Hid (hasW wd ⟨f0, f1, f2, f3⟩ = inB (splitS 32 f2) wd) := rfl
      have HY : Hid (inB (splitS 32 f2) wd = true → linesK (hasW wd) xs (k + 1) = linesK (hasW wd) xs k ++ [(k : Int)]) := fun h => linesK_yes hx.out h
      have HN : Hid (inB (splitS 32 f2) wd = false → linesK (hasW wd) xs (k + 1) = linesK (hasW wd) xs k) := fun h => linesK_no hx.out h
      generalize splitS 32 f2 = ps at *
      go_wp2_with fail
      refine HSP.out.mono ?_
      rintro e w3 ⟨A3, n3, c3, rfl, hown3, hl3, hb3⟩
      have hn3 : n3 ≤ 1048576 := by have := HPL.out; omega
      have HR3 := hide (RdK.of_own (K := kB) hown3 hl3 (fun x hx => Nat.le_trans (HPP.out x hx) (by omega)))
      have HL3 := hide hl3
      have HOW := hide (own_below HO.out.2 hb3 (Nat.le_refl _))
      have hb13 := hb.trans (hb3.mono hb.size)
      have hz13 := hb13.size
      clear hown3 hl3 hc0 hc1 hc2 hc3 hb3
      go_wp2
      go_loop [9, 10] (fun q i => ∃ (j : Nat) (v : Bool), j ≤ n3 ∧ i = .int .i64 j ∧ q = .bool v ∧ Hid (v = (ps.take j).any (fun y => decide (y = wd)))) (fun _ i => n3 - (intOf i).toNat)
      case atStart => exact ⟨0, false, Nat.zero_le _, rfl, rfl, by simp [Hid]⟩
      case round =>
        obtain ⟨j, v, hj, rfl, rfl, HJ⟩ := hrel
        by_cases hj3 : j < n3
        · obtain ⟨b3, off3, y, rfl, hbl3, hy, hcy, hsy⟩ := RdK.atB HR3.out hj3
          cases v with
          | true =>
            have HJ2 : Hid (true = (ps.take (j + 1)).any (fun y => decide (y = wd))) := by
              unfold Hid
              rw [take_snoc hy.out, List.any_append, ← HJ.out]; rfl
            go_wp2
            go_round
            case rel => exact ⟨j + 1, true, by omega, by go_num, rfl, HJ2.out⟩
            case measure => simp [intOf]; omega
          | false =>
            by_cases hyw : y = wd
            · have HJ2 : Hid (true = (ps.take (j + 1)).any (fun y => decide (y = wd))) := by
                unfold Hid
                rw [take_snoc hy.out, List.any_append, ← HJ.out]; simp [hyw]
              obtain ⟨g1, g2⟩ := str_eq hyw
              clear hyw
              go_wp2
              go_round
              case rel => exact ⟨j + 1, true, by omega, by go_num, rfl, HJ2.out⟩
              case measure => simp [intOf]; omega
            · have HJ2 : Hid (false = (ps.take (j + 1)).any (fun y => decide (y = wd))) := by
                unfold Hid
                rw [take_snoc hy.out, List.any_append, ← HJ.out]; simp [hyw]
              obtain ⟨g1, g2⟩ := str_ne hyw
              clear hyw
              go_wp2
              go_round
              case rel => exact ⟨j + 1, false, by omega, by go_num, rfl, HJ2.out⟩
              case measure => simp [intOf]; omega
        · have hjn : j = n3 := by omega
          have HV3 : Hid (v = inB ps wd) := by
            unfold Hid
            rw [HJ.out, hjn, List.take_of_length_le (by rw [HL3.out]; exact Nat.le_refl _)]
            rfl
          clear hjn
          cases v with
          | true =>
            have HI := hide (HY.out HV3.out.symm)
            go_wp2_with (at_builtin; refine appI rfl _ _ rfl w1.heap.size u6 m (linesK (hasW wd) xs k) k rfl HOW.out (by first | rfl | (simp; rfl)) (by omega) (by omega) ?_; intro v' w4 hown4 hb4 hz4)
            go_roundw
            case rel => exact ⟨k + 1, m + 1, by omega, by omega, by go_num, ⟨by rw [HI.out, List.length_append, HO.out.1]; rfl, by rw [HI.out]; exact hown4⟩, hb13.trans hb4⟩
            case measure => simp [intOf]; omega
          | false =>
            have HI := hide (HN.out HV3.out.symm)
            go_wp2
            go_roundw
            case rel => exact ⟨k + 1, m, by omega, by omega, by go_num, ⟨by rw [HI.out]; exact HO.out.1, by rw [HI.out]; exact HOW.out⟩, hb13⟩
            case measure => simp [intOf]; omega
    · have hkn : k = n := by omega
      subst hkn
      obtain ⟨A5, c5, rfl⟩ := own_slice HO.out.2
      have HR : Hid (FrI wo w.heap.size wo.heap.size 2 A5 m (withV xs wd)) := by
        have h1 := FrI.of_own HO.out.2 (linesK_fine _ _ _ hn)
        rw [← HV.out] at h1
        exact ⟨h1.1.mono hb1.size (Nat.le_refl _), h1.2⟩
      go_wp2
      go_ret2
      exact ⟨A5, m, c5, by rw [HC.out]; rfl, HR.out, by omega, hb1.trans (hb.mono hb1.size)⟩

end Go.Proofs.YtofombleojbehaaDoor
