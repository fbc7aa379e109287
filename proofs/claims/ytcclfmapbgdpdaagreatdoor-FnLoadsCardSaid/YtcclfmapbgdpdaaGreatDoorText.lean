/- isWord, isText of the program; l25Word of the reference. -/
import Derived.Test.YtcclfmapbgdpdaaGreatDoorMg
import Derived.Test.YtcclfmapbgdpdaaGreatDoorTab
namespace Go.Proofs.YtcclfmapbgdpdaaGreatDoor
open Go.RowKit
set_option linter.unusedVariables false

theorem wch_eq (c : UInt8) : wchB c = ((decide ((97 : Int) ≤ c.toNat) && decide ((c.toNat : Int) ≤ 122)) || (decide ((48 : Int) ≤ c.toNat) && decide ((c.toNat : Int) ≤ 57))) := by
  unfold wchB; rw [lower_eq, digit_eq]

set_option maxHeartbeats 1000000 in
theorem isWord1_calls (c : UInt8) (w : World) : Calls Tryz.prog 177 #[.int .u8 (c.toNat : Int)] w fun e w' => e = .returned (.bool (!wchB c)) ∧ w = w' := by
  have hc2 := c.toNat_lt
  have HZ : Hid (wchB c = ((decide ((97 : Int) ≤ c.toNat) && decide ((c.toNat : Int) ≤ 122)) || (decide ((48 : Int) ≤ c.toNat) && decide ((c.toNat : Int) ≤ 57)))) := wch_eq c
  rcases (show (c.toNat : Int) < 48 ∨ (48 ≤ (c.toNat : Int) ∧ (c.toNat : Int) ≤ 57) ∨ (58 ≤ (c.toNat : Int) ∧ (c.toNat : Int) < 97) ∨ (97 ≤ (c.toNat : Int) ∧ (c.toNat : Int) ≤ 122) ∨ 123 ≤ (c.toNat : Int) by omega) with hq | ⟨hq, hq'⟩ | ⟨hq, hq'⟩ | ⟨hq, hq'⟩ | hq
  · have HN : Hid (wchB c = false) := by unfold Hid; rw [HZ.out]; simp; omega
    have d1 : decide ((c.toNat : Int) < 97) = true := by simp; omega
    have d3 : decide ((c.toNat : Int) < 48) = true := by simp; omega
    go_enter Tryz.func177, Tryz.ntmps177
    go_wp2
    go_ret
    exact ⟨ret_bool (by rw [HN.out]; rfl), rfl⟩
  · have HN : Hid (wchB c = true) := by unfold Hid; rw [HZ.out]; simp; omega
    have d1 : decide ((c.toNat : Int) < 97) = true := by simp; omega
    have d3 : decide ((c.toNat : Int) < 48) = false := by simp; omega
    have d4 : decide ((57 : Int) < c.toNat) = false := by simp; omega
    go_enter Tryz.func177, Tryz.ntmps177
    go_wp2
    go_ret
    exact ⟨ret_bool (by rw [HN.out]; rfl), rfl⟩
  · have HN : Hid (wchB c = false) := by unfold Hid; rw [HZ.out]; simp; omega
    have d1 : decide ((c.toNat : Int) < 97) = true := by simp; omega
    have d3 : decide ((c.toNat : Int) < 48) = false := by simp; omega
    have d4 : decide ((57 : Int) < c.toNat) = true := by simp; omega
    go_enter Tryz.func177, Tryz.ntmps177
    go_wp2
    go_ret
    exact ⟨ret_bool (by rw [HN.out]; rfl), rfl⟩
  · have HN : Hid (wchB c = true) := by unfold Hid; rw [HZ.out]; simp; omega
    have d1 : decide ((c.toNat : Int) < 97) = false := by simp; omega
    have d2 : decide ((122 : Int) < c.toNat) = false := by simp; omega
    go_enter Tryz.func177, Tryz.ntmps177
    go_wp2
    go_ret
    exact ⟨ret_bool (by rw [HN.out]; rfl), rfl⟩
  · have HN : Hid (wchB c = false) := by unfold Hid; rw [HZ.out]; simp; omega
    have d1 : decide ((c.toNat : Int) < 97) = false := by simp; omega
    have d2 : decide ((122 : Int) < c.toNat) = true := by simp; omega
    have d3 : decide ((c.toNat : Int) < 48) = false := by simp; omega
    have d4 : decide ((57 : Int) < c.toNat) = true := by simp; omega
    go_enter Tryz.func177, Tryz.ntmps177
    go_wp2
    go_ret
    exact ⟨ret_bool (by rw [HN.out]; rfl), rfl⟩

theorem word_any (s : ByteArray) (h : 0 < s.size) : wordB s = !(bs s).any (fun c => !wchB c) := by
  rw [word_some h, List.not_any_eq_all_not]
  simp
theorem empty_of {s : ByteArray} (h : s.size = 0) : s.toList = [] := by
  rw [toList_bs]; exact List.eq_nil_of_length_eq_zero (by rw [bs_len]; exact h)
theorem some_of {s : ByteArray} (h : 0 < s.size) : s.toList ≠ [] := by
  rw [toList_bs]; intro e
  have := bs_len s
  rw [e] at this
  simp at this; omega

set_option maxHeartbeats 1000000 in
theorem isWord_calls (s : ByteArray) (w : World) (hs : s.size ≤ 1048576) : Calls Tryz.prog 105 #[.string s] w fun e w' => e = .returned (.bool (wordB s)) ∧ Below w.heap.size w w' := by
  by_cases h1 : s.size = 0
  · have HM := hide (word_empty h1)
    have e1 := empty_of h1
    have e2 : (!s.toList.isEmpty) = false := by rw [e1]; rfl
    clear h1
    go_enter Tryz.func105, Tryz.ntmps105
    go_wp2
    go_ret
    exact ⟨ret_bool HM.out.symm, Below.refl _ _⟩
  · have HM := hide (word_any s (by omega))
    have e1 : (!s.toList.isEmpty) = true := by
      have := some_of (s := s) (by omega)
      cases h : s.toList with
      | nil => exact absurd h this
      | cons a b => rfl
    have e3 : s.toList.isEmpty = false := by simpa using e1
    have hcv := fun wx : World => Lib.run_convert_string_bytes (P := Tryz.prog) wx 9 22 5 s Tryz.underlying9 Tryz.underlying22 Tryz.underlying5
    have hB := hide (below_bytesWorld w 5 s)
    have hU := hide (rdU_bytesWorld w 5 s)
    have HS := hide hs
    clear h1 hs
    go_enter Tryz.func105, Tryz.ntmps105
    rcases b_cases ((bs s).any (fun c => !wchB c)) with hd | hd
    all_goals
      rw [hd] at HM
      go_wp2_with (go_at_call 176; refine (containsFuncU_calls _ _ s _ (fun c => !wchB c) _ hU.out HS.out Tryz.call177 isWord1_calls).mono ?_; rw [hd]; rintro e w' ⟨rfl, rfl⟩)
      go_ret
      exact ⟨ret_bool (by rw [HM.out]; rfl), hB.out⟩

theorem allW_snoc {s : ByteArray} {k : Nat} {c : UInt8} (hx : (bs s)[k]? = some c) (h : ((bs s).take k).all wchB = true) (hc : wchB c = true) :
    ((bs s).take (k + 1)).all wchB = true := by
  rw [take_snoc hx, List.all_append, h]; simpa using hc
theorem word_bad {s : ByteArray} {k : Nat} {c : UInt8} (hx : (bs s)[k]? = some c) (hc : wchB c = false) : wordB s = false := by
  have : (bs s).all wchB = false := by
    rw [List.all_eq_false]
    exact ⟨c, List.mem_of_getElem? hx, by simp [hc]⟩
  unfold wordB
  rw [this]; simp
theorem word_end {s : ByteArray} {k : Nat} (hk : k = s.size) (h : ((bs s).take k).all wchB = true) : wordB s = decide (0 < s.size) := by
  rw [List.take_of_length_le (by rw [bs_len]; omega)] at h
  by_cases h0 : s.size = 0
  · rw [word_empty h0, h0]; rfl
  · rw [word_some (by omega), h]; simp; omega
set_option maxHeartbeats 2000000 in
theorem l25Word_calls (s : ByteArray) (w : World) (hs : s.size ≤ 9223372036854775807) : Calls Tryz.prog 282 #[.string s] w fun e w' => e = .returned (.bool (wordB s)) ∧ w = w' := by
  go_enter Tryz.func282, Tryz.ntmps282
  go_wp2
  go_loop [3] (fun i => ∃ (k : Nat), k ≤ s.size ∧ i = .int .i64 k ∧ Hid (((bs s).take k).all wchB = true)) (fun i => s.size - (intOf i).toNat)
  case atStart => exact ⟨0, Nat.zero_le _, rfl, by simp [Hid]⟩
  case round =>
    obtain ⟨k, hk, rfl, hr⟩ := hrel
    by_cases hlt : k < s.size
    · obtain ⟨c, hsc, hx⟩ := bs_at s hlt
      have HZ : Hid (wchB c = (lowerB c || digitB c)) := rfl
      have HLW : Hid (lowerB c = (decide ((97 : Int) ≤ c.toNat) && decide ((c.toNat : Int) ≤ 122))) := lower_eq c
      rcases b_cases (digitB c) with hd | hd
      · have HD := hide (l01Digit_calls c w)
        rw [hd] at HD HZ
        clear hd
        rcases b_cases (lowerB c) with hq | hq
        · rw [hq] at HZ HLW
          have HN := hide (word_bad hx.out HZ.out)
          clear hq
          by_cases h97 : (c.toNat : Int) < 97
          · have d1 : decide ((c.toNat : Int) < 97) = true := by simpa using h97
            clear h97
            go_wp2_with fail
            refine HD.out.mono ?_
            rintro e w1 ⟨rfl, rfl⟩
            go_wp2
            go_ret
            exact ⟨ret_bool HN.out.symm, rfl⟩
          · have d1 : decide ((c.toNat : Int) < 97) = false := by simpa using h97
            have d2 : decide ((122 : Int) < c.toNat) = true := by
              have := HLW.out
              simp at this
              have := this (by omega)
              simp; omega
            clear h97
            go_wp2_with fail
            refine HD.out.mono ?_
            rintro e w1 ⟨rfl, rfl⟩
            go_wp2
            go_ret
            exact ⟨ret_bool HN.out.symm, rfl⟩
        · rw [hq] at HZ HLW
          have HN := hide (allW_snoc hx.out hr.out HZ.out)
          clear hq
          have hh : 97 ≤ (c.toNat : Int) ∧ (c.toNat : Int) ≤ 122 := by
            have := HLW.out.symm
            simpa using this
          have d1 : decide ((c.toNat : Int) < 97) = false := by simp; omega
          have d2 : decide ((122 : Int) < c.toNat) = false := by simp; omega
          clear hh
          go_wp2_with fail
          refine HD.out.mono ?_
          rintro e w1 ⟨rfl, rfl⟩
          go_wp2
          go_round
          case rel => exact ⟨k + 1, by omega, by go_num, HN⟩
          case measure => simp [intOf]; omega
      · have HD := hide (l01Digit_calls c w)
        rw [hd] at HD HZ
        have HN := hide (allW_snoc hx.out hr.out (by rw [HZ.out]; simp))
        clear hd
        go_wp2_with fail
        refine HD.out.mono ?_
        rintro e w1 ⟨rfl, rfl⟩
        go_wp2
        go_round
        case rel => exact ⟨k + 1, by omega, by go_num, HN⟩
        case measure => simp [intOf]; omega
    · have hkn : k = s.size := by omega
      have HN := hide (word_end hkn hr.out)
      go_wp2
      go_ret
      exact ⟨ret_bool HN.out.symm, rfl⟩

end Go.Proofs.YtcclfmapbgdpdaaGreatDoor
