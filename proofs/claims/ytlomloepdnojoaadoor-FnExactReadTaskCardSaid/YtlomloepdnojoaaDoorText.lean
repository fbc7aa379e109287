/- isWord, isText of the program; l25Word of the reference. -/
import Derived.Test.YtlomloepdnojoaaDoorTextZ
import Derived.Test.YtlomloepdnojoaaDoorTab
import Derived.Test.YtlomloepdnojoaaDoorMemo
import Derived.Test.YtlomloepdnojoaaDoorKind
namespace Go.Proofs.YtlomloepdnojoaaDoor
open Go.RowKit
set_option linter.unusedVariables false

theorem wch_eq (c : UInt8) : wchB c = ((decide ((97 : Int) ≤ c.toNat) && decide ((c.toNat : Int) ≤ 122)) || (decide ((48 : Int) ≤ c.toNat) && decide ((c.toNat : Int) ≤ 57))) := by
  unfold wchB; rw [lower_eq, digit_eq]


theorem word_any (s : ByteArray) (h : 0 < s.size) : wordB s = !(bs s).any (fun c => !wchB c) := by
  rw [word_some h, List.not_any_eq_all_not]
  simp
theorem empty_of {s : ByteArray} (h : s.size = 0) : s.toList = [] := by
  rw [toList_bs]; exact List.eq_nil_of_length_eq_zero (by rw [bs_len]; exact h)
theorem some_of {s : ByteArray} (h : 0 < s.size) : s.toList ≠ [] := by
  rw [toList_bs]; intro e
  have := bs_len s
  rw [e] at this
  simp at this; omega



end Go.Proofs.YtlomloepdnojoaaDoor
