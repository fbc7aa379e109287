/- LineText of the program and of the reference. -/
import Derived.Test.YtofombleojbehaaDoorLogI
import Derived.Deep.RegionHeld3
namespace Go.Proofs.YtofombleojbehaaDoor
open Go.RowKit
set_option linter.unusedVariables false

/-- A line as text. -/
def printL (x : LineZ) : ByteArray := bodyZ x.day x.minute x.text ++ ⟨#[32]⟩ ++ decZ x.crc
def textL (x : LineZ) : ByteArray := if lineB x then printL x else ⟨#[]⟩

set_option maxHeartbeats 4000000 in
theorem l25Print_calls (x : LineZ) (b off : Nat) (w : World) (hx : kLine.fine x) (hs : x.text.size ≤ 1048576) (hb : b < w.heap.size)
    (e0 : w.cell? ⟨b, off, none⟩ = some (.int .i64 x.day)) (e1 : w.cell? ⟨b, off + 1, none⟩ = some (.int .i64 x.minute)) (e2 : w.cell? ⟨b, off + 2, none⟩ = some (.string x.text)) (e3 : w.cell? ⟨b, off + 3, none⟩ = some (.int .i64 x.crc)) :
    Calls Tryd.prog 64 #[.pointer (some ⟨b, off, none⟩)] w fun e w' => e = .returned (.string (printL x)) ∧ Below w.heap.size w w' := by
  obtain ⟨d, m, t, c⟩ := x
  simp only at hs e0 e1 e2 e3 ⊢
  obtain ⟨hd, hm, _, hc⟩ := hx
  simp only at hd hm hc
  have H1 : Hid (∀ w, Calls Tryd.prog 106 #[.int .i64 d, .int .i64 m, .string t] w fun e w' => e = .returned (.string (bodyZ d m t)) ∧ Below w.heap.size w w') := fun w => l25Body_calls d m t w hd hm hs
  have H2 : Hid (∀ w, Calls Tryd.prog 54 #[.int .i64 c] w fun e w' => e = .returned (.string (decZ c)) ∧ Below w.heap.size w w') := fun w => l01Dec_calls c w hc
  have s1 := body_len (t := t) hd hm
  have s2 := itoa_len hc
  have HZ : Hid (printL ⟨d, m, t, c⟩ = bodyZ d m t ++ ⟨#[32]⟩ ++ decZ c) := rfl
  have p1 : (⟨#[32]⟩ : ByteArray).size = 1 := rfl
  have c1 := fun w : World => run_string_add_sum (P := Tryd.prog) w (bodyZ d m t) ⟨#[32]⟩ (by omega)
  have c2 := fun w : World => run_string_add_sum (P := Tryd.prog) w (bodyZ d m t ++ ⟨#[32]⟩) (decZ c) (by rw [ByteArray.size_append]; omega)
  clear p1
  generalize bodyZ d m t = bd at *
  go_enter Tryd.func64, Tryd.ntmps64
  go_wp2
  go_region_held3 (fun w' => w'.cell? ⟨b, off, none⟩ = some (.int .i64 d) ∧ w'.cell? ⟨b, off + 1, none⟩ = some (.int .i64 m) ∧ w'.cell? ⟨b, off + 2, none⟩ = some (.string t) ∧ w'.cell? ⟨b, off + 3, none⟩ = some (.int .i64 c))
    (first | exact ⟨e0, e1, e2, e3⟩ | exact ⟨(hb1.cell (p := ⟨b, off, none⟩) hb).trans e0, (hb1.cell (p := ⟨b, off + 1, none⟩) hb).trans e1, (hb1.cell (p := ⟨b, off + 2, none⟩) hb).trans e2, (hb1.cell (p := ⟨b, off + 3, none⟩) hb).trans e3⟩ | exact ⟨(hb2.cell (p := ⟨b, off, none⟩) (Nat.lt_of_lt_of_le hb hb1.size)).trans ((hb1.cell (p := ⟨b, off, none⟩) hb).trans e0), (hb2.cell (p := ⟨b, off + 1, none⟩) (Nat.lt_of_lt_of_le hb hb1.size)).trans ((hb1.cell (p := ⟨b, off + 1, none⟩) hb).trans e1), (hb2.cell (p := ⟨b, off + 2, none⟩) (Nat.lt_of_lt_of_le hb hb1.size)).trans ((hb1.cell (p := ⟨b, off + 2, none⟩) hb).trans e2), (hb2.cell (p := ⟨b, off + 3, none⟩) (Nat.lt_of_lt_of_le hb hb1.size)).trans ((hb1.cell (p := ⟨b, off + 3, none⟩) hb).trans e3)⟩)
    (first
      | (go_at_call 106; (with_reducible refine (H1.out _).mono ?_); rintro e w1 ⟨rfl, hb1⟩)
      | (go_at_call 54; (with_reducible refine (H2.out _).mono ?_); rintro e w2 ⟨rfl, hb2⟩)
      | fail)
  all_goals
    go_wp2
    go_ret
    exact ⟨ret_str HZ.out.symm, (by first | exact ((Below.refl _ w).drew.trans hb1).trans (hb2.mono (by have := hb1.size; simpa using this)) | exact (((Below.refl _ w).drew.trans hb1).drew).trans (hb2.mono (by have := hb1.size; simpa using this)))⟩

set_option maxHeartbeats 2000000 in
theorem specLineText_calls (x : LineZ) (w : World) (hx : kLine.fine x) (hs : x.text.size ≤ 1048576) :
    Calls Tryd.prog 20 #[.agg #[.int .i64 x.day, .int .i64 x.minute, .string x.text, .int .i64 x.crc]] w fun e w' => e = .returned (.string (textL x)) ∧ Below w.heap.size w w' := by
  obtain ⟨W0, hW0⟩ : ∃ W0, W0 = w.alloc (.cells #[.int .i64 x.day, .int .i64 x.minute, .string x.text, .int .i64 x.crc] 37) := ⟨_, rfl⟩
  have hB : Below w.heap.size w W0 := by rw [hW0]; exact (Below.refl _ _).alloc (Nat.le_refl _) _
  have e0 : W0.cell? ⟨w.heap.size, 0, none⟩ = some (.int .i64 x.day) := by rw [hW0]; simp
  have e1 : W0.cell? ⟨w.heap.size, 0 + 1, none⟩ = some (.int .i64 x.minute) := by rw [hW0]; simp
  have e2 : W0.cell? ⟨w.heap.size, 0 + 2, none⟩ = some (.string x.text) := by rw [hW0]; simp
  have e3 : W0.cell? ⟨w.heap.size, 0 + 3, none⟩ = some (.int .i64 x.crc) := by rw [hW0]; simp
  have hz : w.heap.size < W0.heap.size := by rw [hW0]; simp
  have HM := hide (l25One_calls x w.heap.size 0 W0 hs hz e0 e1 e2 e3)
  have HP : Hid (∀ W, Below W0.heap.size W0 W → Calls Tryd.prog 64 #[.pointer (some ⟨w.heap.size, 0, none⟩)] W fun e w' => e = .returned (.string (printL x)) ∧ Below W.heap.size W w') := fun W hW => l25Print_calls x w.heap.size 0 W hx hs (Nat.lt_of_lt_of_le hz hW.size) ((hW.cell (p := ⟨w.heap.size, 0, none⟩) hz).trans e0) ((hW.cell (p := ⟨w.heap.size, 0 + 1, none⟩) hz).trans e1) ((hW.cell (p := ⟨w.heap.size, 0 + 2, none⟩) hz).trans e2) ((hW.cell (p := ⟨w.heap.size, 0 + 3, none⟩) hz).trans e3)
  have HZ : Hid (textL x = if lineB x then printL x else ⟨#[]⟩) := rfl
  clear e0 e1 e2 e3
  rcases b_cases (lineB x) with hq | hq
  · rw [hq] at HM HZ
    clear hq
    go_enter Tryd.func20, Tryd.ntmps20
    go_wp2_with fail
    rw [← hW0]
    clear hW0
    refine HM.out.mono ?_
    rintro e w1 ⟨rfl, hb1⟩
    go_wp2
    go_ret
    exact ⟨ret_str (by rw [HZ.out]; rfl), hB.trans (hb1.mono hB.size)⟩
  · rw [hq] at HM HZ
    clear hq
    go_enter Tryd.func20, Tryd.ntmps20
    go_wp2_with fail
    rw [← hW0]
    clear hW0
    refine HM.out.mono ?_
    rintro e w1 ⟨rfl, hb1⟩
    go_wp2_with fail
    refine (HP.out w1 hb1).mono ?_
    rintro e w2 ⟨rfl, hb2⟩
    go_wp2
    go_ret
    exact ⟨ret_str (by rw [HZ.out]; rfl), (hB.trans (hb1.mono hB.size)).trans (hb2.mono (Nat.le_trans hB.size hb1.size))⟩

set_option maxHeartbeats 4000000 in
theorem implLineText_calls (x : LineZ) (w : World) (hT : TabPM w) (hx : kLine.fine x) (hs : x.text.size ≤ 1048576) :
    Calls Tryd.prog 22 #[.agg #[.int .i64 x.day, .int .i64 x.minute, .string x.text, .int .i64 x.crc]] w fun e w' => e = .returned (.string (textL x)) ∧ Below w.heap.size w w' := by
  obtain ⟨W0, hW0⟩ : ∃ W0, W0 = w.alloc (.cells #[.int .i64 x.day, .int .i64 x.minute, .string x.text, .int .i64 x.crc] 37) := ⟨_, rfl⟩
  have hB : Below w.heap.size w W0 := by rw [hW0]; exact (Below.refl _ _).alloc (Nat.le_refl _) _
  have e0 : W0.cell? ⟨w.heap.size, 0, none⟩ = some (.int .i64 x.day) := by rw [hW0]; simp
  have e1 : W0.cell? ⟨w.heap.size, 1, none⟩ = some (.int .i64 x.minute) := by rw [hW0]; simp
  have e2 : W0.cell? ⟨w.heap.size, 2, none⟩ = some (.string x.text) := by rw [hW0]; simp
  have e3 : W0.cell? ⟨w.heap.size, 3, none⟩ = some (.int .i64 x.crc) := by rw [hW0]; simp
  have hz : w.heap.size < W0.heap.size := by rw [hW0]; simp
  have HM := hide (validLine_calls x W0 (hT.2.here hB) hs)
  have HZ : Hid (textL x = if lineB x then printL x else ⟨#[]⟩) := rfl
  rcases b_cases (lineB x) with hq | hq
  · rw [hq] at HM HZ
    clear hq
    go_enter Tryd.func22, Tryd.ntmps22
    go_wp2_with fail
    rw [← hW0]
    clear hW0
    go_wp2_with fail
    refine HM.out.mono ?_
    rintro e w1 ⟨rfl, hb1⟩
    go_wp2
    go_ret
    exact ⟨ret_str (by rw [HZ.out]; rfl), hB.trans (hb1.mono hB.size)⟩
  · have hts := line_text hq
    rw [hq] at HM HZ
    clear hq
    obtain ⟨d, m, t, c⟩ := x
    obtain ⟨hd, hm, _, hc⟩ := hx
    simp only at hd hm hc hts e0 e1 e2 e3 HM hW0 ⊢
    have H1 : Hid (∀ w, TabP w → Calls Tryd.prog 66 #[.agg #[.int .i64 d, .int .i64 m, .string t, .int .i64 c]] w fun e w' => e = .returned (.string (bodyZ d m t)) ∧ Below w.heap.size w w') := fun w h => body_calls d m t c w h hd hm (by omega)
    have H2 : Hid (∀ w, TabP w → Calls Tryd.prog 60 #[.int .i64 c] w fun e w' => e = .returned (.string (decZ c)) ∧ Below w.heap.size w w') := fun w h => decimal_calls c w h hc
    have HP : Hid (printL ⟨d, m, t, c⟩ = bodyZ d m t ++ ⟨#[32]⟩ ++ decZ c) := rfl
    have s1 := body_len (t := t) hd hm
    have s2 := itoa_len hc
    have p1 : (⟨#[32]⟩ : ByteArray).size = 1 := rfl
    have c1 := fun w : World => run_string_add_sum (P := Tryd.prog) w (bodyZ d m t) ⟨#[32]⟩ (by omega)
    have c2 := fun w : World => run_string_add_sum (P := Tryd.prog) w (bodyZ d m t ++ ⟨#[32]⟩) (decZ c) (by rw [ByteArray.size_append]; omega)
    clear p1
    generalize bodyZ d m t = bd at *
    go_enter Tryd.func22, Tryd.ntmps22
    go_wp2_with fail
    rw [← hW0]
    clear hW0
    go_wp2_with fail
    refine HM.out.mono ?_
    rintro e w0 ⟨rfl, hb0⟩
    have k0 := (hb0.cell (p := ⟨w.heap.size, 0, none⟩) hz).trans e0
    have k1 := (hb0.cell (p := ⟨w.heap.size, 1, none⟩) hz).trans e1
    have k2 := (hb0.cell (p := ⟨w.heap.size, 2, none⟩) hz).trans e2
    have k3 := (hb0.cell (p := ⟨w.heap.size, 3, none⟩) hz).trans e3
    have hz0 := Nat.lt_of_lt_of_le hz hb0.size
    have hB0 := hB.trans (hb0.mono hB.size)
    have HT : Hid (TabP w0.drew) := (hT.1.here hB0).drew
    clear e0 e1 e2 e3 hb0
    go_wp2
    go_region_held3 (fun w' => w'.cell? ⟨w.heap.size, 0, none⟩ = some (.int .i64 d) ∧ w'.cell? ⟨w.heap.size, 1, none⟩ = some (.int .i64 m) ∧ w'.cell? ⟨w.heap.size, 2, none⟩ = some (.string t) ∧ w'.cell? ⟨w.heap.size, 3, none⟩ = some (.int .i64 c))
      (first | exact ⟨k0, k1, k2, k3⟩ | exact ⟨(hb1.cell (p := ⟨w.heap.size, 0, none⟩) hz0).trans k0, (hb1.cell (p := ⟨w.heap.size, 1, none⟩) hz0).trans k1, (hb1.cell (p := ⟨w.heap.size, 2, none⟩) hz0).trans k2, (hb1.cell (p := ⟨w.heap.size, 3, none⟩) hz0).trans k3⟩ | exact ⟨(hb2.cell (p := ⟨w.heap.size, 0, none⟩) (Nat.lt_of_lt_of_le hz0 hb1.size)).trans ((hb1.cell (p := ⟨w.heap.size, 0, none⟩) hz0).trans k0), (hb2.cell (p := ⟨w.heap.size, 1, none⟩) (Nat.lt_of_lt_of_le hz0 hb1.size)).trans ((hb1.cell (p := ⟨w.heap.size, 1, none⟩) hz0).trans k1), (hb2.cell (p := ⟨w.heap.size, 2, none⟩) (Nat.lt_of_lt_of_le hz0 hb1.size)).trans ((hb1.cell (p := ⟨w.heap.size, 2, none⟩) hz0).trans k2), (hb2.cell (p := ⟨w.heap.size, 3, none⟩) (Nat.lt_of_lt_of_le hz0 hb1.size)).trans ((hb1.cell (p := ⟨w.heap.size, 3, none⟩) hz0).trans k3)⟩)
      (first
        | (go_at_call 66; (with_reducible refine (H1.out _ HT.out).mono ?_); rintro e w1 ⟨rfl, hb1⟩)
        | (go_at_call 60; (with_reducible refine (H2.out _ (TabP.here (w' := w1) HT.out hb1)).mono ?_); rintro e w2 ⟨rfl, hb2⟩)
        | (go_at_call 60; (with_reducible refine (H2.out _ (TabP.drew (TabP.here (w' := w1) HT.out hb1))).mono ?_); rintro e w2 ⟨rfl, hb2⟩)
        | fail)
    all_goals
      have hbx : Below w.heap.size w w1 := hB0.drew.trans (hb1.mono hB0.size)
      go_wp2
      go_ret
      exact ⟨ret_str (by rw [HZ.out]; exact HP.out.symm), (by first | exact hbx.trans (hb2.mono (Nat.le_trans hB0.size hb1.size)) | exact hbx.drew.trans (hb2.mono (Nat.le_trans hB0.size hb1.size)))⟩

end Go.Proofs.YtofombleojbehaaDoor
