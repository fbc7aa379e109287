/- The body of a line and its seal; numbers of lines: the program's and the reference's. -/
import Derived.Test.YtcclfmapbgdpdaaGreatDoorDec
import Derived.Test.YtcclfmapbgdpdaaGreatDoorCrc
import Derived.Test.YtcclfmapbgdpdaaGreatDoorStLine
namespace Go.Proofs.YtcclfmapbgdpdaaGreatDoor
open Go.RowKit
set_option linter.unusedVariables false

def dayB (n : Int) : Bool := withinB n 0 100000
def minB (n : Int) : Bool := withinB n 0 1439
def crcB (n : Int) : Bool := withinB n 0 65535

theorem isSeal_calls (n : Int) (w : World) : Calls Tryz.prog 101 #[.int .i64 n] w fun e w' => e = .returned (.bool (crcB n)) ∧ w = w' := by
  go_enter Tryz.func101, Tryz.ntmps101
  go_wp2_with fail
  refine (within_calls _ _ _ _).mono ?_
  rintro e w1 ⟨rfl, rfl⟩
  go_wp2
  go_ret
  exact ⟨rfl, rfl⟩
theorem isOpsDay_calls (n : Int) (w : World) : Calls Tryz.prog 90 #[.int .i64 n] w fun e w' => e = .returned (.bool (dayB n)) ∧ w = w' := by
  go_enter Tryz.func90, Tryz.ntmps90
  go_wp2_with fail
  refine (within_calls _ _ _ _).mono ?_
  rintro e w1 ⟨rfl, rfl⟩
  go_wp2
  go_ret
  exact ⟨rfl, rfl⟩
theorem isMinute_calls (n : Int) (w : World) : Calls Tryz.prog 91 #[.int .i64 n] w fun e w' => e = .returned (.bool (minB n)) ∧ w = w' := by
  go_enter Tryz.func91, Tryz.ntmps91
  go_wp2_with fail
  refine (within_calls _ _ _ _).mono ?_
  rintro e w1 ⟨rfl, rfl⟩
  go_wp2
  go_ret
  exact ⟨rfl, rfl⟩
theorem l21Day_calls (n : Int) (w : World) : Calls Tryz.prog 255 #[.int .i64 n] w fun e w' => e = .returned (.bool (dayB n)) ∧ w = w' := by
  go_enter Tryz.func255, Tryz.ntmps255
  go_wp2_with fail
  refine (l00In_calls _ _ _ _).mono ?_
  rintro e w1 ⟨rfl, rfl⟩
  go_wp2
  go_ret
  exact ⟨rfl, rfl⟩

/-- A line without its seal. -/
def bodyZ (d m : Int) (t : ByteArray) : ByteArray := decZ d ++ ⟨#[32]⟩ ++ decZ m ++ ⟨#[32]⟩ ++ t
/-- The seal of a line behind another one. -/
def sealZ (n : Nat) (d m : Int) (t : ByteArray) : Nat := crcN (bs (bodyZ d m t)) n
theorem sealZ_lt {n : Nat} (d m : Int) (t : ByteArray) (h : n < 65536) : sealZ n d m t < 65536 := crcN_lt _ h
theorem body_len {d m : Int} {t : ByteArray} (hd : I64 d) (hm : I64 m) : (bodyZ d m t).size ≤ 42 + t.size := by
  have h1 := itoa_len hd
  have h2 := itoa_len hm
  unfold bodyZ
  simp only [ByteArray.size_append]
  have : (⟨#[32]⟩ : ByteArray).size = 1 := rfl
  omega

theorem l25Body_calls (d m : Int) (t : ByteArray) (w : World) (hd : I64 d) (hm : I64 m) (ht : t.size ≤ 1048576) : Calls Tryz.prog 254 #[.int .i64 d, .int .i64 m, .string t] w fun e w' => e = .returned (.string (bodyZ d m t)) ∧ Below w.heap.size w w' := by
  have H1 := hide (l01Dec_calls d w hd)
  have H2 : Hid (∀ w, Calls Tryz.prog 180 #[.int .i64 m] w fun e w' => e = .returned (.string (decZ m)) ∧ Below w.heap.size w w') := fun w => l01Dec_calls m w hm
  have s1 := itoa_len hd
  have s2 := itoa_len hm
  go_enter Tryz.func254, Tryz.ntmps254
  go_wp2_with fail
  refine H1.out.mono ?_
  rintro e w1 ⟨rfl, hb1⟩
  go_wp2_with fail
  refine (H2.out _).mono ?_
  rintro e w2 ⟨rfl, hb2⟩
  go_wp2
  go_ret
  exact ⟨rfl, hb1.trans (hb2.mono hb1.size)⟩
theorem l25Seal_calls (n : Nat) (d m : Int) (t : ByteArray) (w : World) (hd : I64 d) (hm : I64 m) (ht : t.size ≤ 1048576) (hn : n < 65536) : Calls Tryz.prog 211 #[.int .i64 (n : Int), .int .i64 d, .int .i64 m, .string t] w fun e w' => e = .returned (.int .i64 (sealZ n d m t : Nat)) ∧ Below w.heap.size w w' := by
  have H1 := hide (l25Body_calls d m t w hd hm ht)
  have HL := hide (body_len (t := t) hd hm)
  go_enter Tryz.func211, Tryz.ntmps211
  go_wp2_with fail
  refine H1.out.mono ?_
  rintro e w1 ⟨rfl, hb1⟩
  go_wp2_with fail
  refine (l01Crc_calls _ n _ (by have := HL.out; omega) hn).mono ?_
  rintro e w2 ⟨rfl, rfl⟩
  go_wp2
  go_ret
  exact ⟨rfl, hb1⟩
set_option maxHeartbeats 1000000 in
theorem body_calls (d m : Int) (t : ByteArray) (c : Int) (w : World) (ht : TabP w) (hd : I64 d) (hm : I64 m) (hts : t.size ≤ 1048576) : Calls Tryz.prog 100 #[.agg #[.int .i64 d, .int .i64 m, .string t, .int .i64 c]] w fun e w' => e = .returned (.string (bodyZ d m t)) ∧ Below w.heap.size w w' := by
  obtain ⟨W0, hW0⟩ : ∃ W0, W0 = w.alloc (.cells #[.int .i64 d, .int .i64 m, .string t, .int .i64 c] 48) := ⟨_, rfl⟩
  have hB : Below w.heap.size w W0 := by rw [hW0]; exact (Below.refl _ _).alloc (Nat.le_refl _) _
  have e0 : W0.cell? ⟨w.heap.size, 0, none⟩ = some (.int .i64 d) := by rw [hW0]; simp
  have e1 : W0.cell? ⟨w.heap.size, 1, none⟩ = some (.int .i64 m) := by rw [hW0]; simp
  have e2 : W0.cell? ⟨w.heap.size, 2, none⟩ = some (.string t) := by rw [hW0]; simp
  have hz : w.heap.size < W0.heap.size := by rw [hW0]; simp
  have HT : Hid (TabP W0.drew) := (ht.here hB).drew
  have H1 : Hid (∀ w, TabP w → Calls Tryz.prog 79 #[.int .i64 d] w fun e w' => e = .returned (.string (decZ d)) ∧ Below w.heap.size w w') := fun w ht => decimal_calls d w ht hd
  have H2 : Hid (∀ w, TabP w → Calls Tryz.prog 79 #[.int .i64 m] w fun e w' => e = .returned (.string (decZ m)) ∧ Below w.heap.size w w') := fun w ht => decimal_calls m w ht hm
  have s1 := itoa_len hd
  have s2 := itoa_len hm
  have p1 : (⟨#[32]⟩ : ByteArray).size = 1 := rfl
  have c1 := fun w : World => run_string_add_sum (P := Tryz.prog) w (decZ d) ⟨#[32]⟩ (by omega)
  have c2 := fun w : World => run_string_add_sum (P := Tryz.prog) w (decZ d ++ ⟨#[32]⟩) (decZ m) (by rw [ByteArray.size_append]; omega)
  have c3 := fun w : World => run_string_add_sum (P := Tryz.prog) w (decZ d ++ ⟨#[32]⟩ ++ decZ m) ⟨#[32]⟩ (by rw [ByteArray.size_append, ByteArray.size_append]; omega)
  have c4 := fun w : World => run_string_add_sum (P := Tryz.prog) w (decZ d ++ ⟨#[32]⟩ ++ decZ m ++ ⟨#[32]⟩) t (by rw [ByteArray.size_append, ByteArray.size_append, ByteArray.size_append]; omega)
  clear p1
  go_enter Tryz.func100, Tryz.ntmps100
  go_wp2
  rw [← hW0]
  clear hW0
  go_region_held3 (fun w' => w'.cell? ⟨w.heap.size, 0, none⟩ = some (.int .i64 d) ∧ w'.cell? ⟨w.heap.size, 1, none⟩ = some (.int .i64 m) ∧ w'.cell? ⟨w.heap.size, 2, none⟩ = some (.string t))
    (first | exact ⟨e0, e1, e2⟩ | exact ⟨(hb1.cell (p := ⟨w.heap.size, 0, none⟩) hz).trans e0, (hb1.cell (p := ⟨w.heap.size, 1, none⟩) hz).trans e1, (hb1.cell (p := ⟨w.heap.size, 2, none⟩) hz).trans e2⟩ | exact ⟨(hb2.cell (p := ⟨w.heap.size, 0, none⟩) (Nat.lt_of_lt_of_le hz hb1.size)).trans ((hb1.cell (p := ⟨w.heap.size, 0, none⟩) hz).trans e0), (hb2.cell (p := ⟨w.heap.size, 1, none⟩) (Nat.lt_of_lt_of_le hz hb1.size)).trans ((hb1.cell (p := ⟨w.heap.size, 1, none⟩) hz).trans e1), (hb2.cell (p := ⟨w.heap.size, 2, none⟩) (Nat.lt_of_lt_of_le hz hb1.size)).trans ((hb1.cell (p := ⟨w.heap.size, 2, none⟩) hz).trans e2)⟩)
    (first
      | ((with_reducible refine (H1.out _ HT.out).mono ?_); rintro e w1 ⟨rfl, hb1⟩)
      | ((with_reducible refine (H2.out _ (TabP.here (w' := w1) HT.out hb1)).mono ?_); rintro e w2 ⟨rfl, hb2⟩)
      | ((with_reducible refine (H2.out _ (TabP.drew (TabP.here (w' := w1) HT.out hb1))).mono ?_); rintro e w2 ⟨rfl, hb2⟩)
      | fail)
  all_goals
   go_wp2
   go_ret
   exact ⟨rfl, (by first | exact ((hB.drew.trans (hb1.mono hB.size)).trans (hb2.mono (Nat.le_trans hB.size hb1.size))) | exact ((hB.drew.trans (hb1.mono hB.size)).drew.trans (hb2.mono (Nat.le_trans hB.size hb1.size))))⟩
theorem sealBehind_calls (n : Nat) (d m : Int) (t : ByteArray) (c : Int) (w : World) (ht : TabP w) (hd : I64 d) (hm : I64 m) (hts : t.size ≤ 1048000) (hn : n < 65536) : Calls Tryz.prog 102 #[.int .i64 (n : Int), .agg #[.int .i64 d, .int .i64 m, .string t, .int .i64 c]] w fun e w' => e = .returned (.int .i64 (sealZ n d m t : Nat)) ∧ Below w.heap.size w w' := by
  have hB : Hid (Below w.heap.size w (w.alloc (.cells #[.int .i64 d, .int .i64 m, .string t, .int .i64 c] 48))) := (Below.refl _ _).alloc (Nat.le_refl _) _
  have H1 := hide (body_calls d m t c (w.alloc (.cells #[.int .i64 d, .int .i64 m, .string t, .int .i64 c] 48)) (ht.here hB.out) hd hm (by omega))
  have HL := hide (body_len (t := t) hd hm)
  go_enter Tryz.func102, Tryz.ntmps102
  go_wp2_with fail
  refine H1.out.mono ?_
  rintro e w1 ⟨rfl, hb1⟩
  have H2 := hide (crc16_calls (bodyZ d m t) n w1 (by have := HL.out; omega) hn)
  go_wp2_with fail
  refine H2.out.mono ?_
  rintro e w2 ⟨rfl, hb2⟩
  go_wp2
  go_ret
  exact ⟨rfl, (hB.out.trans (hb1.mono (by simp))).trans (hb2.mono (by have := hb1.size; simp at this; omega))⟩

/-- What SealOf gives: a number and a code. -/
def sealOf (n d m : Int) (t : ByteArray) : Int × Int :=
  if (crcB n && dayB d && minB m) = false then (0, 2) else if textB t = false then (0, 9) else (((sealZ n.toNat d m t : Nat) : Int), 0)

end Go.Proofs.YtcclfmapbgdpdaaGreatDoor
