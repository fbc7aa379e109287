/- Contract of cmp.Compare over strings. -/
import Derived.Test.YtmpfkmbfbeejhaaRows
import Derived.Test.YtmpfkmbfbeejhaaMg
namespace Go.Proofs.Ytmpfkmbfbeejhaa
open Go.RowKit
set_option linter.unusedVariables false

/-- How two strings stand: -1, 0 or 1. -/
def cmpS (s t : ByteArray) : Int := if strLess s t = true then -1 else if strLess t s = true then 1 else 0
theorem cmpS_ways (s t : ByteArray) : (strLess s t = true ∧ strLess t s = false ∧ s ≠ t ∧ cmpS s t = -1) ∨ (strLess s t = false ∧ strLess t s = false ∧ s = t ∧ cmpS s t = 0) ∨ (strLess s t = false ∧ strLess t s = true ∧ s ≠ t ∧ cmpS s t = 1) := by
  rcases str_ways s t with ⟨_, _, _, _, h1, h2, h3⟩ | ⟨_, _, _, _, h1, h2, h3⟩ | ⟨_, _, _, _, h1, h2, h3⟩
  · exact .inl ⟨h1, h2, h3, by simp [cmpS, h1]⟩
  · exact .inr (.inl ⟨h1, h2, h3, by simp [cmpS, h1, h2]⟩)
  · exact .inr (.inr ⟨h1, h2, h3, by simp [cmpS, h1, h2]⟩)

theorem isNaNS_calls (s : ByteArray) (w : World) : Calls Try.prog 145 #[.string s] w fun e w' => e = .returned (.bool false) ∧ w = w' := by
  go_enter Try.func145, Try.ntmps145
  go_wp2
  go_ret
  exact ⟨by simp, rfl⟩

set_option maxHeartbeats 400000 in
theorem compareS_calls (s t : ByteArray) (w : World) : Calls Try.prog 124 #[.string s, .string t] w fun e w' => e = .returned (.int .i64 (cmpS s t)) ∧ w = w' := by
  rcases str_ways s t with ⟨q1, q2, q3, q4, q5, q6, q7⟩ | ⟨q1, q2, q3, q4, q5, q6, q7⟩ | ⟨q1, q2, q3, q4, q5, q6, q7⟩
  · have HH : Hid (cmpS s t = -1) := by simp [Hid, cmpS, q5]
    clear q4 q5 q6 q7
    go_enter Try.func124, Try.ntmps124
    go_wp2_with (go_at_call 145; refine (isNaNS_calls _ _).mono ?_; rintro e w' ⟨rfl, rfl⟩)
    go_ret
    exact ⟨ret_int HH.out.symm, rfl⟩
  · have HH : Hid (cmpS s t = 0) := by simp [Hid, cmpS, q5, q6]
    clear q4 q5 q6 q7
    go_enter Try.func124, Try.ntmps124
    go_wp2_with (go_at_call 145; refine (isNaNS_calls _ _).mono ?_; rintro e w' ⟨rfl, rfl⟩)
    go_ret
    exact ⟨ret_int HH.out.symm, rfl⟩
  · have HH : Hid (cmpS s t = 1) := by simp [Hid, cmpS, q5, q6]
    clear q4 q5 q6 q7
    go_enter Try.func124, Try.ntmps124
    go_wp2_with (go_at_call 145; refine (isNaNS_calls _ _).mono ?_; rintro e w' ⟨rfl, rfl⟩)
    go_ret
    exact ⟨ret_int HH.out.symm, rfl⟩
theorem compareS_q (s t : ByteArray) (r : Int) (w : World) (hr : cmpS s t = r) : Calls Try.prog 124 #[.string s, .string t] w fun e w' => e = .returned (.int .i64 r) ∧ w = w' := hr ▸ compareS_calls s t w

end Go.Proofs.Ytmpfkmbfbeejhaa
