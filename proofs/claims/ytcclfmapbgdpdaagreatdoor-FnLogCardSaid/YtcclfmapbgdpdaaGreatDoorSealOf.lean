/- SealOf of the program and of the reference. -/
import Derived.Test.YtcclfmapbgdpdaaGreatDoorSealZ
import Derived.Test.YtcclfmapbgdpdaaGreatDoorSplitS
namespace Go.Proofs.YtcclfmapbgdpdaaGreatDoor
open Go.RowKit
set_option linter.unusedVariables false

theorem sealOf_range {n d m : Int} {t : ByteArray} (h : (crcB n && dayB d && minB m) = false) : sealOf n d m t = (0, 2) := by unfold sealOf; rw [if_pos h]
theorem sealOf_text {n d m : Int} {t : ByteArray} (h : (crcB n && dayB d && minB m) = true) (h2 : textB t = false) : sealOf n d m t = (0, 9) := by unfold sealOf; rw [if_neg (by rw [h]; simp), if_pos h2]
theorem sealOf_ok {n d m : Int} {t : ByteArray} (h : (crcB n && dayB d && minB m) = true) (h2 : textB t = true) : sealOf n d m t = (((sealZ n.toNat d m t : Nat) : Int), 0) := by unfold sealOf; rw [if_neg (by rw [h]; simp), if_neg (by rw [h2]; simp)]
theorem crc_nat {n : Int} (h : crcB n = true) : ∃ k : Nat, n = (k : Int) ∧ k < 65536 := by
  have := withinB_iff.1 h
  exact ⟨n.toNat, by omega, by omega⟩
theorem ret_pair {a b a' b' : Int} {p : Int × Int} (h : p = (a', b')) (h1 : a = a') (h2 : b = b') : Ending.returned (.tuple #[.int .i64 a, .int .i64 b]) = .returned (.tuple #[.int .i64 p.1, .int .i64 p.2]) := by rw [h, h1, h2]

set_option maxHeartbeats 2000000 in
theorem implSealOf_calls (n d m : Int) (t : ByteArray) (w : World) (hT : TabPM w) (hn : I64 n) (hd : I64 d) (hm : I64 m) (ht0 : t.size ≤ 9223372036854775807) (ht : t.size ≤ 1048576) :
    Calls Tryz.prog 31 #[.int .i64 n, .int .i64 d, .int .i64 m, .string t] w fun e w' => e = .returned (.tuple #[.int .i64 (sealOf n d m t).1, .int .i64 (sealOf n d m t).2]) ∧ Below w.heap.size w w' := by
  have HS := hide (isSeal_calls n w)
  have HD := hide (isOpsDay_calls d w)
  have HM := hide (isMinute_calls m w)
  have HX := hide (isText_calls t w hT.2 ht)
  rcases b_cases (crcB n) with h1 | h1
  · have HZ := hide (sealOf_range (n := n) (d := d) (m := m) (t := t) (by rw [h1]; rfl))
    rw [h1] at HS
    clear h1
    go_enter Tryz.func31, Tryz.ntmps31
    go_wp2_with fail
    refine HS.out.mono ?_
    rintro e w1 ⟨rfl, rfl⟩
    go_wp2
    go_ret2
    exact ⟨ret_pair HZ.out rfl rfl, Below.refl _ _⟩
  rcases b_cases (dayB d) with h2 | h2
  · have HZ := hide (sealOf_range (n := n) (d := d) (m := m) (t := t) (by rw [h1, h2]; rfl))
    rw [h1] at HS
    rw [h2] at HD
    clear h1 h2
    go_enter Tryz.func31, Tryz.ntmps31
    go_wp2_with fail
    refine HS.out.mono ?_
    rintro e w1 ⟨rfl, rfl⟩
    go_wp2_with fail
    refine HD.out.mono ?_
    rintro e w1 ⟨rfl, rfl⟩
    go_wp2
    go_ret2
    exact ⟨ret_pair HZ.out rfl rfl, Below.refl _ _⟩
  rcases b_cases (minB m) with h3 | h3
  · have HZ := hide (sealOf_range (n := n) (d := d) (m := m) (t := t) (by rw [h1, h2, h3]; rfl))
    rw [h1] at HS
    rw [h2] at HD
    rw [h3] at HM
    clear h1 h2 h3
    go_enter Tryz.func31, Tryz.ntmps31
    go_wp2_with fail
    refine HS.out.mono ?_
    rintro e w1 ⟨rfl, rfl⟩
    go_wp2_with fail
    refine HD.out.mono ?_
    rintro e w1 ⟨rfl, rfl⟩
    go_wp2_with fail
    refine HM.out.mono ?_
    rintro e w1 ⟨rfl, rfl⟩
    go_wp2
    go_ret2
    exact ⟨ret_pair HZ.out rfl rfl, Below.refl _ _⟩
  obtain ⟨k, rfl, hk⟩ := crc_nat h1
  rcases b_cases (textB t) with h4 | h4
  · have HZ := hide (sealOf_text (n := (k : Int)) (d := d) (m := m) (t := t) (by rw [h1, h2, h3]; rfl) h4)
    rw [h1] at HS
    rw [h2] at HD
    rw [h3] at HM
    rw [h4] at HX
    clear h1 h2 h3 h4
    go_enter Tryz.func31, Tryz.ntmps31
    go_wp2_with fail
    refine HS.out.mono ?_
    rintro e w1 ⟨rfl, rfl⟩
    go_wp2_with fail
    refine HD.out.mono ?_
    rintro e w1 ⟨rfl, rfl⟩
    go_wp2_with fail
    refine HM.out.mono ?_
    rintro e w1 ⟨rfl, rfl⟩
    go_wp2_with fail
    refine HX.out.mono ?_
    rintro e w1 ⟨rfl, hb⟩
    go_wp2
    go_ret2
    exact ⟨ret_pair HZ.out rfl rfl, hb⟩
  · have HZ := hide (sealOf_ok (n := (k : Int)) (d := d) (m := m) (t := t) (by rw [h1, h2, h3]; rfl) h4)
    have hts : t.size ≤ 40 := by
      unfold textB at h4
      rw [Bool.and_eq_true] at h4
      simpa using h4.1
    have HB : Hid (∀ W, TabP W → Calls Tryz.prog 102 #[.int .i64 (k : Int), .agg #[.int .i64 d, .int .i64 m, .string t, .int .i64 0]] W fun e w' => e = .returned (.int .i64 (sealZ k d m t : Nat)) ∧ Below W.heap.size W w') := fun W hp => sealBehind_calls k d m t 0 W hp hd hm (by omega) hk
    rw [h1] at HS
    rw [h2] at HD
    rw [h3] at HM
    rw [h4] at HX
    clear h1 h2 h3 h4 hts
    go_enter Tryz.func31, Tryz.ntmps31
    go_wp2_with fail
    refine HS.out.mono ?_
    rintro e w1 ⟨rfl, rfl⟩
    go_wp2_with fail
    refine HD.out.mono ?_
    rintro e w1 ⟨rfl, rfl⟩
    go_wp2_with fail
    refine HM.out.mono ?_
    rintro e w1 ⟨rfl, rfl⟩
    go_wp2_with fail
    refine HX.out.mono ?_
    rintro e w1 ⟨rfl, hb⟩
    go_wp2_with fail
    refine (HB.out _ (hT.1.here hb)).mono ?_
    rintro e w2 ⟨rfl, hb2⟩
    go_wp2
    go_ret2
    exact ⟨ret_pair HZ.out (by rw [Int.toNat_natCast]) rfl, hb.trans (hb2.mono hb.size)⟩

end Go.Proofs.YtcclfmapbgdpdaaGreatDoor
