/- Contracts of the functions on names, of the program and of the reference. -/
import Derived.Test.YtlomloepdnojoaaGreatDoorRows
import Derived.Test.YtlomloepdnojoaaGreatDoorBase
namespace Go.Proofs.YtlomloepdnojoaaGreatDoor
open Go.RowKit
set_option linter.unusedVariables false

def lowerB (c : UInt8) : Bool := decide (97 ≤ c.toNat) && decide (c.toNat ≤ 122)
def digitB (c : UInt8) : Bool := decide (48 ≤ c.toNat) && decide (c.toNat ≤ 57)
/-- Is a text a name? -/
def nameB (s : ByteArray) : Bool := decide (1 ≤ s.size) && decide (s.size ≤ 10) && lowerB (s.data.toList.getD 0 0) && s.data.toList.all fun c => lowerB c || digitB c

theorem lower_eq (c : UInt8) : lowerB c = (decide ((97 : Int) ≤ c.toNat) && decide ((c.toNat : Int) ≤ 122)) := by
  unfold lowerB
  congr 1 <;> (rw [decide_eq_decide]; omega)
theorem digit_eq (c : UInt8) : digitB c = (decide ((48 : Int) ≤ c.toNat) && decide ((c.toNat : Int) ≤ 57)) := by
  unfold digitB
  congr 1 <;> (rw [decide_eq_decide]; omega)

set_option maxHeartbeats 400000 in
theorem l01Digit_calls (c : UInt8) (w : World) : Calls Tryz.prog 180 #[.int .u8 (c.toNat : Int)] w fun e w' => e = .returned (.bool (digitB c)) ∧ w = w' := by
  have hc := c.toNat_lt
  by_cases h : (48 : Int) ≤ c.toNat
  · have h1 : decide ((48 : Int) ≤ c.toNat) = true := by simpa using h
    go_enter Tryz.func180, Tryz.ntmps180
    go_wp2
    go_ret
    exact ⟨ret_bool (by rw [digit_eq, h1]; simp), rfl⟩
  · have h1 : decide ((48 : Int) ≤ c.toNat) = false := by simpa using h
    go_enter Tryz.func180, Tryz.ntmps180
    go_wp2
    go_ret
    exact ⟨ret_bool (by rw [digit_eq, h1]; simp), rfl⟩
theorem allName_snoc {s : ByteArray} {k : Nat} {c : UInt8} (hx : (bs s)[k]? = some c) (h : ((bs s).take k).all (fun c => lowerB c || digitB c) = true) (hc : (lowerB c || digitB c) = true) :
    ((bs s).take (k + 1)).all (fun c => lowerB c || digitB c) = true := by
  rw [take_snoc hx, List.all_append, h]; simpa using hc
theorem name_bad {s : ByteArray} {k : Nat} {c : UInt8} (hx : (bs s)[k]? = some c) (hc : (lowerB c || digitB c) = false) : nameB s = false := by
  have : (bs s).all (fun c => lowerB c || digitB c) = false := by
    rw [List.all_eq_false]
    exact ⟨c, List.mem_of_getElem? hx, by simp [hc]⟩
  unfold nameB
  simp only [bs] at this
  rw [this]; simp
theorem name_first {s : ByteArray} {c : UInt8} (hx : (bs s)[0]? = some c) (hc : lowerB c = false) : nameB s = false := by
  unfold nameB
  simp only [bs] at hx
  simp [List.getD, hx, hc]
theorem name_end {s : ByteArray} (h1 : 1 ≤ s.size) (h2 : s.size ≤ 10) (hf : lowerB ((bs s).getD 0 0) = true) (h : ((bs s).take s.size).all (fun c => lowerB c || digitB c) = true) : nameB s = true := by
  rw [List.take_of_length_le (by rw [bs_len]; omega)] at h
  unfold nameB
  simp only [bs] at h hf
  rw [h, hf]
  simp; omega
theorem name_len {s : ByteArray} (h : s.size < 1 ∨ 10 < s.size) : nameB s = false := by
  unfold nameB
  rcases h with h | h
  · rw [decide_eq_false (by omega : ¬ 1 ≤ s.size)]; rfl
  · rw [decide_eq_false (by omega : ¬ s.size ≤ 10)]; simp

end Go.Proofs.YtlomloepdnojoaaGreatDoor
