/- LinesWith of the program and of the reference. -/
import Derived.Test.YtcclfmapbgdpdaaGreatDoorLinesF
import Derived.Deep.RegionHeld3
namespace Go.Proofs.YtcclfmapbgdpdaaGreatDoor
open Go.RowKit
set_option linter.unusedVariables false

/-- Has a line a word? -/
def hasW (wd : ByteArray) (x : LineZ) : Bool := inB (splitS 32 x.text) wd
def withV (xs : List LineZ) (wd : ByteArray) : List Int := if loggedZ xs true (wordB wd) = 0 then linesK (hasW wd) xs xs.length else []
theorem withV_bad {xs : List LineZ} {wd : ByteArray} {c : Int} (h : loggedZ xs true (wordB wd) = c) (hc : c ≠ 0) : withV xs wd = [] := by unfold withV; rw [h, if_neg hc]
theorem withV_ok {xs : List LineZ} {wd : ByteArray} {n : Nat} (hl : xs.length = n) (h : loggedZ xs true (wordB wd) = 0) : withV xs wd = linesK (hasW wd) xs n := by unfold withV; rw [h, if_pos rfl, hl]

set_option maxHeartbeats 2000000 in
theorem linesWith1_calls (x : LineZ) (wd : ByteArray) (b : Nat) (w : World) (hm : TabM w) (hs : x.text.size ≤ 1048000) (hb : b < w.heap.size) (hc : w.cell? ⟨b, 0, none⟩ = some (.string wd)) :
    Calls Tryz.prog 107 #[.agg #[.int .i64 x.day, .int .i64 x.minute, .string x.text, .int .i64 x.crc], .pointer (some ⟨b, 0, none⟩)] w fun e w' => e = .returned (.bool (hasW wd x)) ∧ Below w.heap.size w w' := by
  obtain ⟨f0, f1, f2, f3⟩ := x
  simp only at hs ⊢
  have HZ : Hid (hasW wd ⟨f0, f1, f2, f3⟩ = inB (splitS 32 f2) wd) := rfl
  obtain ⟨W0, hW0⟩ : ∃ W0, W0 = w.alloc (.cells #[.int .i64 f0, .int .i64 f1, .string f2, .int .i64 f3] 48) := ⟨_, rfl⟩
  have hB : Below w.heap.size w W0 := by rw [hW0]; exact (Below.refl _ _).alloc (Nat.le_refl _) _
  have e2 : W0.cell? ⟨w.heap.size, 2, none⟩ = some (.string f2) := by rw [hW0]; simp
  have ec := (hB.cell (p := ⟨b, 0, none⟩) hb).trans hc
  have hz : w.heap.size < W0.heap.size := by rw [hW0]; simp
  have hbz : b < W0.heap.size := by omega
  have HSP : Hid (Calls Tryz.prog 77 #[.string f2, .string ⟨#[32]⟩] W0.drew (PartsPost (splitS 32 f2) W0.drew)) := split_calls f2 W0.drew (hm.here hB).drew (by omega)
  have HPL := hide (splitS_le 32 f2)
  have HPP := hide (splitS_part 32 f2)
  have HCN : Hid (∀ A n c W, RdK kB W A n (splitS 32 f2) → n ≤ 1048576 → Calls Tryz.prog 108 #[.slice A n c, .string wd] W fun e w' => e = .returned (.bool (inB (splitS 32 f2) wd)) ∧ W = w') := fun A n c W h hn => containsB_calls A n c _ wd W h hn
  generalize splitS 32 f2 = ps at *
  go_enter Tryz.func107, Tryz.ntmps107
  go_wp2
  rw [← hW0]
  clear hW0
  go_region_held3 (fun w' => w'.cell? ⟨w.heap.size, 2, none⟩ = some (.string f2) ∧ w'.cell? ⟨b, 0, none⟩ = some (.string wd))
    (first | exact ⟨e2, ec⟩ | exact ⟨(hb1.cell (p := ⟨w.heap.size, 2, none⟩) hz).trans e2, (hb1.cell (p := ⟨b, 0, none⟩) hbz).trans ec⟩)
    (first
      | ((with_reducible refine HSP.out.mono ?_); rintro e w1 ⟨A1, n1, c1, rfl, hown, hl, hb1⟩; have hn1 : n1 ≤ 1048576 := (by have := HPL.out; omega); have hr1 := RdK.of_own (K := kB) hown hl (fun x hx => Nat.le_trans (HPP.out x hx) (by omega)))
      | ((with_reducible refine (HCN.out _ _ _ _ hr1 hn1).mono ?_); rintro e w2 ⟨rfl, rfl⟩)
      | ((with_reducible refine (HCN.out _ _ _ _ (hr1.drewN 1) hn1).mono ?_); rintro e w2 ⟨rfl, rfl⟩)
      | fail)
  all_goals
    go_wp2
    go_ret
    exact ⟨ret_bool HZ.out.symm, (by first | exact hB.drew.trans (hb1.mono hB.size) | exact (hB.drew.trans (hb1.mono hB.size)).drew)⟩

set_option maxHeartbeats 2000000 in
theorem implLinesWith_calls (A : Option Addr) (n c : Nat) (xs : List LineZ) (wd : ByteArray) (w : World) (hT : TabPM w) (h : RdK kLine w A n xs) (hd0 : wd.size ≤ 9223372036854775807) (hn : n ≤ 1048576) (hd : wd.size ≤ 1048576) (hx : MidL xs) :
    Calls Tryz.prog 33 #[.slice A n c, .string wd] w (NumsPost (withV xs wd) (loggedZ xs true (wordB wd)) w) := by
  have HL := hide h.2.1
  obtain ⟨W0, hW0⟩ : ∃ W0, W0 = w.alloc (.cells #[.string wd] 9) := ⟨_, rfl⟩
  have hB : Below w.heap.size w W0 := by rw [hW0]; exact (Below.refl _ _).alloc (Nat.le_refl _) _
  have e0 : W0.cell? ⟨w.heap.size, 0, none⟩ = some (.string wd) := by rw [hW0]; simp
  have hz : w.heap.size < W0.heap.size := by rw [hW0]; simp
  have h0 := h.below hB (Nat.le_refl _)
  have HW := hide (isWord_calls wd W0 hd)
  have HM : Hid (∀ W, Below W0.heap.size W0 W → Calls Tryz.prog 89 #[.slice A n c, .bool true, .bool (wordB wd)] W fun e w' => e = .returned (.int .i64 (loggedZ xs true (wordB wd))) ∧ Below W.heap.size W w') := fun W hW => logged_calls A n c xs true (wordB wd) W ((hT.here hB).here hW) (h0.below hW (Nat.le_refl _)) hn hx
  have HSH : Hid (loggedZ xs true (wordB wd) = 0 → ShortL xs) := by
    intro h
    rcases b_cases (validL xs) with hv | hv
    · rw [logged_bad hv] at h; omega
    · unfold validL at hv
      rw [Bool.and_eq_true] at hv
      exact log_short hv.1
  generalize hcc : loggedZ xs true (wordB wd) = cc at *
  have HC := hide hcc
  clear hcc
  by_cases hc0 : cc = 0
  · have HS := hide (HSH.out hc0)
    subst hc0
    have HV := hide (withV_ok HL.out HC.out)
    go_enter Tryz.func33, Tryz.ntmps33
    go_wp2_with fail
    rw [← hW0]
    clear hW0
    go_wp2_with fail
    refine HW.out.mono ?_
    rintro e w1 ⟨rfl, hb1⟩
    go_wp2_with fail
    refine (HM.out w1 hb1).mono ?_
    rintro e w2 ⟨rfl, hb2⟩
    have hb12 := hb1.trans (hb2.mono hb1.size)
    have h2 := h0.below hb12 (Nat.le_refl _)
    have e2 := (hb12.cell (p := ⟨w.heap.size, 0, none⟩) hz).trans e0
    have hz2 := Nat.lt_of_lt_of_le hz hb12.size
    have hbw := hB.trans (hb12.mono hB.size)
    have HTM : Hid (TabM w2) := hT.2.here hbw
    have HF := hide (linesFor_calls A n c xs 107 #[.pointer (some ⟨w.heap.size, 0, none⟩)] (hasW wd) w2 h2 hn Tryz.call107 (fun W x hW hxm => linesWith1_calls x wd w.heap.size W (HTM.out.here hW) (Nat.le_trans (HS.out x hxm) (by omega)) (Nat.lt_of_lt_of_le hz2 hW.size) ((hW.cell (p := ⟨w.heap.size, 0, none⟩) hz2).trans e2)))
    go_wp2_with fail
    refine HF.out.mono ?_
    rintro e w3 ⟨A3, n3, c3, rfl, hown, hl3, hb3⟩
    have hn3 : n3 ≤ 1048576 := by have := linesK_len (hasW wd) xs n; omega
    have HR : Hid (FrI w3 w.heap.size w3.heap.size 2 A3 n3 (withV xs wd)) := by
      have h1 := FrI.of_own hown (linesK_fine _ _ _ hn)
      rw [← HV.out] at h1
      exact ⟨h1.1.mono hbw.size (Nat.le_refl _), h1.2⟩
    clear hown hl3
    go_wp2
    go_ret2
    exact ⟨A3, n3, c3, rfl, HR.out, hn3, hbw.trans (hb3.mono hbw.size)⟩
  · have HV := hide (withV_bad HC.out hc0)
    have hne : (cc != 0) = true := by simpa using hc0
    clear hc0
    go_enter Tryz.func33, Tryz.ntmps33
    go_wp2_with fail
    rw [← hW0]
    clear hW0
    go_wp2_with fail
    refine HW.out.mono ?_
    rintro e w1 ⟨rfl, hb1⟩
    go_wp2_with fail
    refine (HM.out w1 hb1).mono ?_
    rintro e w2 ⟨rfl, hb2⟩
    have hb12 := hb1.trans (hb2.mono hb1.size)
    have hbw := hB.trans (hb12.mono hB.size)
    go_wp2
    go_ret2
    exact nums_none HV.out rfl hbw


end Go.Proofs.YtcclfmapbgdpdaaGreatDoor
