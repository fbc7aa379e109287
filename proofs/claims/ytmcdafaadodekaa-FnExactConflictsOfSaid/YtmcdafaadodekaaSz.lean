/- What the laws' size functions promise; strings that are equal or not. Over any program. -/
import Derived.Test.YtmcdafaadodekaaBase
namespace Go.Proofs.Ytmcdafaadodekaa
open Go.RowKit

/-- What the laws' size functions return: less than zero, or what is left; then what was counted is small. -/
def SzPost (l : Int) (F : Prop) (w : World) (e : Ending) (w' : World) : Prop := ∃ r : Int, e = .returned (.int .i64 r) ∧ -1 ≤ r ∧ r ≤ l ∧ (0 ≤ r → F) ∧ Below w.heap.size w w'

theorem str_eq {s s' : ByteArray} (h : s = s') : (s.toList == s'.toList) = true ∧ (s.toList != s'.toList) = false := by
  subst h; simp
theorem str_ne {s s' : ByteArray} (h : s ≠ s') : (s.toList == s'.toList) = false ∧ (s.toList != s'.toList) = true := by
  have : ¬ s.toList = s'.toList := by rw [toList_bs, toList_bs]; exact fun e => h (bs_inj e)
  simp [this]

theorem ret_str {a b : ByteArray} (h : a = b) : Ending.returned (.string a) = .returned (.string b) := by rw [h]

end Go.Proofs.Ytmcdafaadodekaa
