/- Contracts of the two functions that test a range, of the program and of the reference; strings in order. -/
import Derived.Test.YtcclfmapbgdpdaaGreatDoorRows
import Derived.Test.YtcclfmapbgdpdaaGreatDoorBase
namespace Go.Proofs.YtcclfmapbgdpdaaGreatDoor
open Go.RowKit
set_option linter.unusedVariables false

def withinB (n low high : Int) : Bool := decide (low ≤ n) && decide (n ≤ high)
theorem withinB_iff {n low high : Int} : withinB n low high = true ↔ low ≤ n ∧ n ≤ high := by simp [withinB]
theorem withinB_not {n low high : Int} : withinB n low high = false ↔ n < low ∨ high < n := by
  rw [← Bool.not_eq_true, withinB_iff]; omega

set_option maxHeartbeats 400000 in
theorem within_calls (n low high : Int) (w : World) : Calls Tryz.prog 75 #[.int .i64 n, .int .i64 low, .int .i64 high] w fun e w' => e = .returned (.bool (withinB n low high)) ∧ w = w' := by
  by_cases h : low ≤ n
  · have h1 : decide (low ≤ n) = true := by simpa using h
    go_enter Tryz.func75, Tryz.ntmps75
    go_wp2
    go_ret
    exact ⟨by simp [withinB, h], rfl⟩
  · have h1 : decide (low ≤ n) = false := by simpa using h
    go_enter Tryz.func75, Tryz.ntmps75
    go_wp2
    go_ret
    exact ⟨by simp [withinB, h1], rfl⟩

set_option maxHeartbeats 400000 in
theorem l00In_calls (n low high : Int) (w : World) : Calls Tryz.prog 162 #[.int .i64 n, .int .i64 low, .int .i64 high] w fun e w' => e = .returned (.bool (withinB n low high)) ∧ w = w' := by
  by_cases h : low ≤ n
  · have h1 : decide (low ≤ n) = true := by simpa using h
    go_enter Tryz.func162, Tryz.ntmps162
    go_wp2
    go_ret
    exact ⟨by simp [withinB, h], rfl⟩
  · have h1 : decide (low ≤ n) = false := by simpa using h
    go_enter Tryz.func162, Tryz.ntmps162
    go_wp2
    go_ret
    exact ⟨by simp [withinB, h1], rfl⟩


/-! ### strings in order -/
theorem bless_irrefl : ∀ (x : List UInt8), Op.bytesLess x x = false
  | [] => rfl
  | a :: x => by simp [Op.bytesLess, bless_irrefl x]
theorem bless_cons {a b : UInt8} {x y : List UInt8} : Op.bytesLess (a :: x) (b :: y) = true ↔ a.toNat < b.toNat ∨ (a = b ∧ Op.bytesLess x y = true) := by
  simp [Op.bytesLess, UInt8.lt_iff_toNat_lt]
theorem bless_trans : ∀ {x y z : List UInt8}, Op.bytesLess x y = true → Op.bytesLess y z = true → Op.bytesLess x z = true
  | _, [], _, h, _ => by simp [Op.bytesLess] at h
  | _, _ :: _, [], _, h => by simp [Op.bytesLess] at h
  | [], _ :: _, _ :: _, _, _ => by simp [Op.bytesLess]
  | a :: x, b :: y, c :: z, h, h' => by
    rw [bless_cons] at *
    rcases h with h | ⟨rfl, h⟩
    · rcases h' with h' | ⟨rfl, h'⟩
      · exact .inl (by omega)
      · exact .inl h
    · rcases h' with h' | ⟨rfl, h'⟩
      · exact .inl h'
      · exact .inr ⟨rfl, bless_trans h h'⟩
theorem bless_total : ∀ {x y : List UInt8}, Op.bytesLess x y = false → Op.bytesLess y x = false → x = y
  | [], [], _, _ => rfl
  | [], _ :: _, h, _ => by simp [Op.bytesLess] at h
  | _ :: _, [], _, h => by simp [Op.bytesLess] at h
  | a :: x, b :: y, h, h' => by
    have h1 : ¬ Op.bytesLess (a :: x) (b :: y) = true := by rw [h]; simp
    have h2 : ¬ Op.bytesLess (b :: y) (a :: x) = true := by rw [h']; simp
    rw [bless_cons] at h1 h2
    have hab : a = b := UInt8.toNat_inj.1 (by omega)
    subst hab
    rw [bless_total (x := x) (y := y) (by simpa using h1) (by simpa using h2)]
/-- A string stands before another. -/
def strLess (s t : ByteArray) : Bool := Op.bytesLess s.toList t.toList
theorem strLess_irrefl (s : ByteArray) : strLess s s = false := bless_irrefl _
theorem strLess_trans {s t u : ByteArray} (h : strLess s t = true) (h' : strLess t u = true) : strLess s u = true := bless_trans h h'
theorem strLess_total {s t : ByteArray} (h : strLess s t = false) (h' : strLess t s = false) : s = t := by
  have := bless_total h h'
  rw [toList_bs, toList_bs] at this
  exact bs_inj this
theorem strLess_asymm {s t : ByteArray} (h : strLess s t = true) : strLess t s = false := by
  rcases b_cases (strLess t s) with e | e
  · exact e
  · have := strLess_trans h e
    rw [strLess_irrefl] at this
    exact absurd this (by simp)
/-- The three ways in which two strings stand. -/
theorem str_ways (s t : ByteArray) :
    (Op.bytesLess s.toList t.toList = true ∧ Op.bytesLess t.toList s.toList = false ∧ (s.toList == t.toList) = false ∧ (t.toList == s.toList) = false ∧ strLess s t = true ∧ strLess t s = false ∧ s ≠ t)
    ∨ (Op.bytesLess s.toList t.toList = false ∧ Op.bytesLess t.toList s.toList = false ∧ (s.toList == t.toList) = true ∧ (t.toList == s.toList) = true ∧ strLess s t = false ∧ strLess t s = false ∧ s = t)
    ∨ (Op.bytesLess s.toList t.toList = false ∧ Op.bytesLess t.toList s.toList = true ∧ (s.toList == t.toList) = false ∧ (t.toList == s.toList) = false ∧ strLess s t = false ∧ strLess t s = true ∧ s ≠ t) := by
  rcases b_cases (strLess s t) with e | e
  · rcases b_cases (strLess t s) with e' | e'
    · have := strLess_total e e'
      subst this
      exact .inr (.inl ⟨e, e, by simp, by simp, e, e, rfl⟩)
    · have hne : s ≠ t := by rintro rfl; rw [e] at e'; exact absurd e' (by simp)
      have hl : s.toList ≠ t.toList := by rw [toList_bs, toList_bs]; exact fun h => hne (bs_inj h)
      exact .inr (.inr ⟨e, e', by simpa using hl, by simpa using hl.symm, e, e', hne⟩)
  · have e' := strLess_asymm e
    have hne : s ≠ t := by rintro rfl; rw [e] at e'; exact absurd e' (by simp)
    have hl : s.toList ≠ t.toList := by rw [toList_bs, toList_bs]; exact fun h => hne (bs_inj h)
    exact .inl ⟨e, e', by simpa using hl, by simpa using hl.symm, e, e', hne⟩

end Go.Proofs.YtcclfmapbgdpdaaGreatDoor
