/- Contracts of the functions on names, of the program and of the reference. -/
import Derived.Test.YtcclfmapbgdpdaaGreatDoorRows
import Derived.Test.YtcclfmapbgdpdaaGreatDoorBase
namespace Go.Proofs.YtcclfmapbgdpdaaGreatDoor
open Go.RowKit
set_option linter.unusedVariables false

def lowerB (c : UInt8) : Bool := decide (97 ≤ c.toNat) && decide (c.toNat ≤ 122)
def digitB (c : UInt8) : Bool := decide (48 ≤ c.toNat) && decide (c.toNat ≤ 57)
/-- Is a text a name? -/
def nameB (s : ByteArray) : Bool := decide (1 ≤ s.size) && decide (s.size ≤ 10) && lowerB (s.data.toList.getD 0 0) && s.data.toList.all fun c => lowerB c || digitB c

theorem lower_eq (c : UInt8) : lowerB c = (decide ((97 : Int) ≤ c.toNat) && decide ((c.toNat : Int) ≤ 122)) := by
  unfold lowerB
  congr 1 <;> (rw [decide_eq_decide]; omega)
theorem digit_eq (c : UInt8) : digitB c = (decide ((48 : Int) ≤ c.toNat) && decide ((c.toNat : Int) ≤ 57)) := by
  unfold digitB
  congr 1 <;> (rw [decide_eq_decide]; omega)

set_option maxHeartbeats 400000 in
theorem l01Small_calls (c : UInt8) (w : World) : Calls Tryz.prog 227 #[.int .u8 (c.toNat : Int)] w fun e w' => e = .returned (.bool (lowerB c)) ∧ w = w' := by
  have hc := c.toNat_lt
  by_cases h : (97 : Int) ≤ c.toNat
  · have h1 : decide ((97 : Int) ≤ c.toNat) = true := by simpa using h
    go_enter Tryz.func227, Tryz.ntmps227
    go_wp2
    go_ret
    exact ⟨ret_bool (by rw [lower_eq, h1]; simp), rfl⟩
  · have h1 : decide ((97 : Int) ≤ c.toNat) = false := by simpa using h
    go_enter Tryz.func227, Tryz.ntmps227
    go_wp2
    go_ret
    exact ⟨ret_bool (by rw [lower_eq, h1]; simp), rfl⟩
set_option maxHeartbeats 400000 in
theorem l01Digit_calls (c : UInt8) (w : World) : Calls Tryz.prog 228 #[.int .u8 (c.toNat : Int)] w fun e w' => e = .returned (.bool (digitB c)) ∧ w = w' := by
  have hc := c.toNat_lt
  by_cases h : (48 : Int) ≤ c.toNat
  · have h1 : decide ((48 : Int) ≤ c.toNat) = true := by simpa using h
    go_enter Tryz.func228, Tryz.ntmps228
    go_wp2
    go_ret
    exact ⟨ret_bool (by rw [digit_eq, h1]; simp), rfl⟩
  · have h1 : decide ((48 : Int) ≤ c.toNat) = false := by simpa using h
    go_enter Tryz.func228, Tryz.ntmps228
    go_wp2
    go_ret
    exact ⟨ret_bool (by rw [digit_eq, h1]; simp), rfl⟩
theorem allName_snoc {s : ByteArray} {k : Nat} {c : UInt8} (hx : (bs s)[k]? = some c) (h : ((bs s).take k).all (fun c => lowerB c || digitB c) = true) (hc : (lowerB c || digitB c) = true) :
    ((bs s).take (k + 1)).all (fun c => lowerB c || digitB c) = true := by
  rw [take_snoc hx, List.all_append, h]; simpa using hc
theorem name_bad {s : ByteArray} {k : Nat} {c : UInt8} (hx : (bs s)[k]? = some c) (hc : (lowerB c || digitB c) = false) : nameB s = false := by
  have : (bs s).all (fun c => lowerB c || digitB c) = false := by
    rw [List.all_eq_false]
    exact ⟨c, List.mem_of_getElem? hx, by simp [hc]⟩
  unfold nameB
  simp only [bs] at this
  rw [this]; simp
theorem name_first {s : ByteArray} {c : UInt8} (hx : (bs s)[0]? = some c) (hc : lowerB c = false) : nameB s = false := by
  unfold nameB
  simp only [bs] at hx
  simp [List.getD, hx, hc]
theorem name_end {s : ByteArray} (h1 : 1 ≤ s.size) (h2 : s.size ≤ 10) (hf : lowerB ((bs s).getD 0 0) = true) (h : ((bs s).take s.size).all (fun c => lowerB c || digitB c) = true) : nameB s = true := by
  rw [List.take_of_length_le (by rw [bs_len]; omega)] at h
  unfold nameB
  simp only [bs] at h hf
  rw [h, hf]
  simp; omega
theorem name_len {s : ByteArray} (h : s.size < 1 ∨ 10 < s.size) : nameB s = false := by
  unfold nameB
  rcases h with h | h
  · rw [decide_eq_false (by omega : ¬ 1 ≤ s.size)]; rfl
  · rw [decide_eq_false (by omega : ¬ s.size ≤ 10)]; simp

set_option maxHeartbeats 2000000 in
theorem isName_calls (s : ByteArray) (w : World) (hs : s.size ≤ 9223372036854775807) : Calls Tryz.prog 183 #[.string s] w fun e w' => e = .returned (.bool (nameB s)) ∧ Below w.heap.size w w' := by
  by_cases h1 : s.size < 1
  · have e1 : decide ((s.size : Int) < 1) = true := by simp; omega
    go_enter Tryz.func183, Tryz.ntmps183
    go_wp2
    go_ret
    exact ⟨ret_bool (name_len (.inl h1)).symm, Below.refl _ _⟩
  · by_cases h2 : 10 < s.size
    · have e1 : decide ((s.size : Int) < 1) = false := by simp; omega
      have e2 : decide ((10 : Int) < s.size) = true := by simp; omega
      go_enter Tryz.func183, Tryz.ntmps183
      go_wp2
      go_ret
      exact ⟨ret_bool (name_len (.inr h2)).symm, Below.refl _ _⟩
    · have e1 : decide ((s.size : Int) < 1) = false := by simp; omega
      have e2 : decide ((10 : Int) < s.size) = false := by simp; omega
      have hcv := fun wx : World => Lib.run_convert_string_bytes (P := Tryz.prog) wx 9 22 5 s Tryz.underlying9 Tryz.underlying22 Tryz.underlying5
      have hB := below_bytesWorld w 5 s
      have hcell := fun j hj => Lib.bytesWorld_cell w 5 s j hj
      have HC := hide hcell
      clear hcell
      go_enter Tryz.func183, Tryz.ntmps183
      go_wp2
      generalize Lib.bytesWorld w 5 s = w1 at *
      clear hcv
      go_loop [18] (fun i => ∃ (k : Nat), k ≤ s.size ∧ i = .int .i64 k ∧ Hid (((bs s).take k).all (fun c => lowerB c || digitB c) = true ∧ (1 ≤ k → lowerB ((bs s).getD 0 0) = true))) (fun i => s.size - (intOf i).toNat)
      case atStart => exact ⟨0, Nat.zero_le _, rfl, by simp [Hid]⟩
      case round =>
        obtain ⟨k, hk, rfl, hr⟩ := hrel
        by_cases hlt : k < s.size
        · obtain ⟨c, hsc, hx⟩ := bs_at s hlt
          have hc : w1.cell? ⟨w.heap.size, k, none⟩ = some (.int .u8 (c.toNat : Int)) := by
            rw [HC.out k hlt]
            have := hx.out
            simp only [bs] at this
            simp [List.getD, this]
          clear hsc
          have hc2 := c.toNat_lt
          rcases (show (c.toNat : Int) < 48 ∨ (48 ≤ (c.toNat : Int) ∧ (c.toNat : Int) ≤ 57) ∨ (58 ≤ (c.toNat : Int) ∧ (c.toNat : Int) ≤ 96) ∨ (97 ≤ (c.toNat : Int) ∧ (c.toNat : Int) ≤ 122) ∨ 123 ≤ (c.toNat : Int) by omega) with hq | ⟨hq, hq'⟩ | ⟨hq, hq'⟩ | ⟨hq, hq'⟩ | hq
          · have HN := hide (name_bad hx.out (by rw [lower_eq, digit_eq]; simp; omega))
            by_cases hk0 : k = 0
            · subst hk0
              go_wp2
              go_ret
              exact ⟨ret_bool HN.out.symm, hB⟩
            · have e3 : ((k : Int) == 0) = false := by simp; omega
              go_wp2
              go_ret
              exact ⟨ret_bool HN.out.symm, hB⟩
          · by_cases hk0 : k = 0
            · subst hk0
              have HN := hide (name_first hx.out (by rw [lower_eq]; simp; omega))
              go_wp2
              go_ret
              exact ⟨ret_bool HN.out.symm, hB⟩
            · have e3 : ((k : Int) == 0) = false := by simp; omega
              go_wp2
              go_round
              case rel =>
                refine ⟨k + 1, by omega, by go_num, allName_snoc hx.out hr.out.1 (by rw [lower_eq, digit_eq]; simp; omega), fun _ => ?_⟩
                exact hr.out.2 (by omega)
              case measure => simp [intOf]; omega
          · have d57 : decide ((c.toNat : Int) ≤ 57) = false := by simp; omega
            have HN := hide (name_bad hx.out (by rw [lower_eq, digit_eq]; simp; omega))
            by_cases hk0 : k = 0
            · subst hk0
              go_wp2
              go_ret
              exact ⟨ret_bool HN.out.symm, hB⟩
            · have e3 : ((k : Int) == 0) = false := by simp; omega
              go_wp2
              go_ret
              exact ⟨ret_bool HN.out.symm, hB⟩
          · by_cases hk0 : k = 0
            · subst hk0
              go_wp2
              go_round
              case rel =>
                refine ⟨1, by omega, by go_num, allName_snoc (k := 0) hx.out hr.out.1 (by rw [lower_eq, digit_eq]; simp; omega), fun _ => ?_⟩
                have := hx.out
                simp only [List.getD, this, lower_eq]; simp; omega
              case measure => simp [intOf]; omega
            · have e3 : ((k : Int) == 0) = false := by simp; omega
              go_wp2
              go_round
              case rel =>
                refine ⟨k + 1, by omega, by go_num, allName_snoc hx.out hr.out.1 (by rw [lower_eq, digit_eq]; simp; omega), fun _ => ?_⟩
                exact hr.out.2 (by omega)
              case measure => simp [intOf]; omega
          · have d57 : decide ((c.toNat : Int) ≤ 57) = false := by simp; omega
            have d122 : decide ((c.toNat : Int) ≤ 122) = false := by simp; omega
            have HN := hide (name_bad hx.out (by rw [lower_eq, digit_eq]; simp; omega))
            by_cases hk0 : k = 0
            · subst hk0
              go_wp2
              go_ret
              exact ⟨ret_bool HN.out.symm, hB⟩
            · have e3 : ((k : Int) == 0) = false := by simp; omega
              go_wp2
              go_ret
              exact ⟨ret_bool HN.out.symm, hB⟩
        · have hkn : k = s.size := by omega
          have HN := hide (name_end (by omega) (by omega) (hr.out.2 (by omega)) (hkn ▸ hr.out.1))
          go_wp2
          go_ret
          exact ⟨ret_bool HN.out.symm, hB⟩
set_option maxHeartbeats 2000000 in
theorem l01Name_calls (s : ByteArray) (w : World) (hs : s.size ≤ 9223372036854775807) : Calls Tryz.prog 189 #[.string s] w fun e w' => e = .returned (.bool (nameB s)) ∧ w = w' := by
  by_cases h1 : s.size < 1
  · have e0 : s.toList = [] := by
      rw [toList_bs]; exact List.eq_nil_of_length_eq_zero (by rw [bs_len]; omega)
    go_enter Tryz.func189, Tryz.ntmps189
    go_wp2
    go_ret
    exact ⟨ret_bool (name_len (.inl h1)).symm, rfl⟩
  · have e0 : s.toList.isEmpty = false := by
      rw [toList_bs, List.isEmpty_eq_false_iff]
      intro h
      have := bs_len s
      rw [h] at this
      simp at this
      omega
    by_cases h2 : (10 : Int) < s.size
    · go_enter Tryz.func189, Tryz.ntmps189
      go_wp2
      go_ret
      exact ⟨ret_bool (name_len (.inr (by omega))).symm, rfl⟩
    · have h3 : 0 < s.size := by omega
      obtain ⟨c, hsc, hx⟩ := bs_at s h3
      cases hl : lowerB c
      · have HN := hide (name_first hx.out hl)
        go_enter Tryz.func189, Tryz.ntmps189
        go_wp2_with fail
        refine (l01Small_calls c _).mono ?_
        rintro e w' ⟨rfl, rfl⟩
        go_wp2
        go_ret
        exact ⟨ret_bool HN.out.symm, rfl⟩
      · have HF : Hid (lowerB ((bs s).getD 0 0) = true) := by
          have := hx.out
          simp [Hid, List.getD, this, hl]
        go_enter Tryz.func189, Tryz.ntmps189
        go_wp2_with fail
        refine (l01Small_calls c _).mono ?_
        rintro e w' ⟨rfl, rfl⟩
        go_wp2_with fail
        clear hx hsc hl
        go_loop [3] (fun i => ∃ (k : Nat), k ≤ s.size ∧ i = .int .i64 k ∧ Hid (((bs s).take k).all (fun c => lowerB c || digitB c) = true)) (fun i => s.size - (intOf i).toNat)
        case atStart => exact ⟨0, Nat.zero_le _, rfl, by simp [Hid]⟩
        case round =>
          obtain ⟨k, hk, rfl, hr⟩ := hrel
          by_cases hlt : k < s.size
          · obtain ⟨d, hsd, hx⟩ := bs_at s hlt
            cases hl : lowerB d
            · cases hd : digitB d
              · have HN := hide (name_bad hx.out (by rw [hl, hd]; rfl))
                go_wp2_with fail
                refine (l01Small_calls d _).mono ?_
                rintro e w' ⟨rfl, rfl⟩
                go_wp2_with fail
                refine (l01Digit_calls d _).mono ?_
                rintro e w' ⟨rfl, rfl⟩
                go_wp2
                go_ret
                exact ⟨ret_bool HN.out.symm, rfl⟩
              · have HN := hide (allName_snoc hx.out hr.out (by rw [hl, hd]; rfl))
                go_wp2_with fail
                refine (l01Small_calls d _).mono ?_
                rintro e w' ⟨rfl, rfl⟩
                go_wp2_with fail
                refine (l01Digit_calls d _).mono ?_
                rintro e w' ⟨rfl, rfl⟩
                go_wp2
                go_round
                case rel => exact ⟨k + 1, by omega, by go_num, HN⟩
                case measure => simp [intOf]; omega
            · have HN := hide (allName_snoc hx.out hr.out (by rw [hl]; rfl))
              go_wp2_with fail
              refine (l01Small_calls d _).mono ?_
              rintro e w' ⟨rfl, rfl⟩
              go_wp2
              go_round
              case rel => exact ⟨k + 1, by omega, by go_num, HN⟩
              case measure => simp [intOf]; omega
          · have hkn : k = s.size := by omega
            have HN := hide (name_end (by omega) (by omega) HF.out (hkn ▸ hr.out))
            go_wp2
            go_ret
            exact ⟨ret_bool HN.out.symm, rfl⟩
end Go.Proofs.YtcclfmapbgdpdaaGreatDoor
