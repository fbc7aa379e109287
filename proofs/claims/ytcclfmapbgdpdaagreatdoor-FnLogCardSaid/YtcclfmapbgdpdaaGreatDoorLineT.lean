/- LineText of the program and of the reference. -/
import Derived.Test.YtcclfmapbgdpdaaGreatDoorLogI
import Derived.Deep.RegionHeld3
namespace Go.Proofs.YtcclfmapbgdpdaaGreatDoor
open Go.RowKit
set_option linter.unusedVariables false

/-- A line as text. -/
def printL (x : LineZ) : ByteArray := bodyZ x.day x.minute x.text ++ ⟨#[32]⟩ ++ decZ x.crc
def textL (x : LineZ) : ByteArray := if lineB x then printL x else ⟨#[]⟩



set_option maxHeartbeats 4000000 in
theorem implLineText_calls (x : LineZ) (w : World) (hT : TabPM w) (hx : kLine.fine x) (hs : x.text.size ≤ 1048576) :
    Calls Tryz.prog 30 #[.agg #[.int .i64 x.day, .int .i64 x.minute, .string x.text, .int .i64 x.crc]] w fun e w' => e = .returned (.string (textL x)) ∧ Below w.heap.size w w' := by
  obtain ⟨W0, hW0⟩ : ∃ W0, W0 = w.alloc (.cells #[.int .i64 x.day, .int .i64 x.minute, .string x.text, .int .i64 x.crc] 48) := ⟨_, rfl⟩
  have hB : Below w.heap.size w W0 := by rw [hW0]; exact (Below.refl _ _).alloc (Nat.le_refl _) _
  have e0 : W0.cell? ⟨w.heap.size, 0, none⟩ = some (.int .i64 x.day) := by rw [hW0]; simp
  have e1 : W0.cell? ⟨w.heap.size, 1, none⟩ = some (.int .i64 x.minute) := by rw [hW0]; simp
  have e2 : W0.cell? ⟨w.heap.size, 2, none⟩ = some (.string x.text) := by rw [hW0]; simp
  have e3 : W0.cell? ⟨w.heap.size, 3, none⟩ = some (.int .i64 x.crc) := by rw [hW0]; simp
  have hz : w.heap.size < W0.heap.size := by rw [hW0]; simp
  have HM := hide (validLine_calls x W0 (hT.2.here hB) hs)
  have HZ : Hid (textL x = if lineB x then printL x else ⟨#[]⟩) := rfl
  rcases b_cases (lineB x) with hq | hq
  · rw [hq] at HM HZ
    clear hq
    go_enter Tryz.func30, Tryz.ntmps30
    go_wp2_with fail
    rw [← hW0]
    clear hW0
    go_wp2_with fail
    refine HM.out.mono ?_
    rintro e w1 ⟨rfl, hb1⟩
    go_wp2
    go_ret
    exact ⟨ret_str (by rw [HZ.out]; rfl), hB.trans (hb1.mono hB.size)⟩
  · have hts := line_text hq
    rw [hq] at HM HZ
    clear hq
    obtain ⟨d, m, t, c⟩ := x
    obtain ⟨hd, hm, _, hc⟩ := hx
    simp only at hd hm hc hts e0 e1 e2 e3 HM hW0 ⊢
    have H1 : Hid (∀ w, TabP w → Calls Tryz.prog 100 #[.agg #[.int .i64 d, .int .i64 m, .string t, .int .i64 c]] w fun e w' => e = .returned (.string (bodyZ d m t)) ∧ Below w.heap.size w w') := fun w h => body_calls d m t c w h hd hm (by omega)
    have H2 : Hid (∀ w, TabP w → Calls Tryz.prog 79 #[.int .i64 c] w fun e w' => e = .returned (.string (decZ c)) ∧ Below w.heap.size w w') := fun w h => decimal_calls c w h hc
    have HP : Hid (printL ⟨d, m, t, c⟩ = bodyZ d m t ++ ⟨#[32]⟩ ++ decZ c) := rfl
    have s1 := body_len (t := t) hd hm
    have s2 := itoa_len hc
    have p1 : (⟨#[32]⟩ : ByteArray).size = 1 := rfl
    have c1 := fun w : World => run_string_add_sum (P := Tryz.prog) w (bodyZ d m t) ⟨#[32]⟩ (by omega)
    have c2 := fun w : World => run_string_add_sum (P := Tryz.prog) w (bodyZ d m t ++ ⟨#[32]⟩) (decZ c) (by rw [ByteArray.size_append]; omega)
    clear p1
    generalize bodyZ d m t = bd at *
    go_enter Tryz.func30, Tryz.ntmps30
    go_wp2_with fail
    rw [← hW0]
    clear hW0
    go_wp2_with fail
    refine HM.out.mono ?_
    rintro e w0 ⟨rfl, hb0⟩
    have k0 := (hb0.cell (p := ⟨w.heap.size, 0, none⟩) hz).trans e0
    have k1 := (hb0.cell (p := ⟨w.heap.size, 1, none⟩) hz).trans e1
    have k2 := (hb0.cell (p := ⟨w.heap.size, 2, none⟩) hz).trans e2
    have k3 := (hb0.cell (p := ⟨w.heap.size, 3, none⟩) hz).trans e3
    have hz0 := Nat.lt_of_lt_of_le hz hb0.size
    have hB0 := hB.trans (hb0.mono hB.size)
    have HT : Hid (TabP w0.drew) := (hT.1.here hB0).drew
    clear e0 e1 e2 e3 hb0
    go_wp2
    go_region_held3 (fun w' => w'.cell? ⟨w.heap.size, 0, none⟩ = some (.int .i64 d) ∧ w'.cell? ⟨w.heap.size, 1, none⟩ = some (.int .i64 m) ∧ w'.cell? ⟨w.heap.size, 2, none⟩ = some (.string t) ∧ w'.cell? ⟨w.heap.size, 3, none⟩ = some (.int .i64 c))
      (first | exact ⟨k0, k1, k2, k3⟩ | exact ⟨(hb1.cell (p := ⟨w.heap.size, 0, none⟩) hz0).trans k0, (hb1.cell (p := ⟨w.heap.size, 1, none⟩) hz0).trans k1, (hb1.cell (p := ⟨w.heap.size, 2, none⟩) hz0).trans k2, (hb1.cell (p := ⟨w.heap.size, 3, none⟩) hz0).trans k3⟩ | exact ⟨(hb2.cell (p := ⟨w.heap.size, 0, none⟩) (Nat.lt_of_lt_of_le hz0 hb1.size)).trans ((hb1.cell (p := ⟨w.heap.size, 0, none⟩) hz0).trans k0), (hb2.cell (p := ⟨w.heap.size, 1, none⟩) (Nat.lt_of_lt_of_le hz0 hb1.size)).trans ((hb1.cell (p := ⟨w.heap.size, 1, none⟩) hz0).trans k1), (hb2.cell (p := ⟨w.heap.size, 2, none⟩) (Nat.lt_of_lt_of_le hz0 hb1.size)).trans ((hb1.cell (p := ⟨w.heap.size, 2, none⟩) hz0).trans k2), (hb2.cell (p := ⟨w.heap.size, 3, none⟩) (Nat.lt_of_lt_of_le hz0 hb1.size)).trans ((hb1.cell (p := ⟨w.heap.size, 3, none⟩) hz0).trans k3)⟩)
      (first
        | (go_at_call 100; (with_reducible refine (H1.out _ HT.out).mono ?_); rintro e w1 ⟨rfl, hb1⟩)
        | (go_at_call 79; (with_reducible refine (H2.out _ (TabP.here (w' := w1) HT.out hb1)).mono ?_); rintro e w2 ⟨rfl, hb2⟩)
        | (go_at_call 79; (with_reducible refine (H2.out _ (TabP.drew (TabP.here (w' := w1) HT.out hb1))).mono ?_); rintro e w2 ⟨rfl, hb2⟩)
        | fail)
    all_goals
      have hbx : Below w.heap.size w w1 := hB0.drew.trans (hb1.mono hB0.size)
      go_wp2
      go_ret
      exact ⟨ret_str (by rw [HZ.out]; exact HP.out.symm), (by first | exact hbx.trans (hb2.mono (Nat.le_trans hB0.size hb1.size)) | exact hbx.drew.trans (hb2.mono (Nat.le_trans hB0.size hb1.size)))⟩

end Go.Proofs.YtcclfmapbgdpdaaGreatDoor
