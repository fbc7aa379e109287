/- Plain: words counted, lines found (FnLog). -/
import Derived.Test.YtcclfmapbgdpdaaGreatDoorWordZ
import Derived.Test.YtcclfmapbgdpdaaGreatDoorLinesF
import Derived.Test.YtcclfmapbgdpdaaGreatDoorMg
namespace Go.Proofs.YtcclfmapbgdpdaaGreatDoor
open Go.RowKit
set_option linter.unusedVariables false

theorem one_of {x : ByteArray} : ∀ {ws : List ByteArray}, ws.Nodup → x ∈ ws → sumZ (ws.map fun w => ((if x = w then 1 else 0 : Nat) : Int)) = 1
  | [], _, h => absurd h List.not_mem_nil
  | w :: r, hn, h => by
    rw [List.nodup_cons] at hn
    rw [List.map_cons, sumZ]
    by_cases e : x = w
    · have hz : sumZ (r.map fun w => ((if x = w then 1 else 0 : Nat) : Int)) = 0 := by
        have key : ∀ {l : List ByteArray}, x ∉ l → sumZ (l.map fun w => ((if x = w then 1 else 0 : Nat) : Int)) = 0 := by
          intro l
          induction l with
          | nil => intro _; rfl
          | cons y l ih =>
            intro hl
            rw [List.mem_cons, not_or] at hl
            rw [List.map_cons, sumZ, ih hl.2, if_neg hl.1]
            rfl
        exact key (by rw [e]; exact hn.1)
      rw [hz, if_pos e]
      rfl
    · rw [List.mem_cons] at h
      rw [one_of hn.2 (h.resolve_left e), if_neg e]
      rfl
theorem sum_two (f g : ByteArray → Int) : ∀ ws : List ByteArray, sumZ (ws.map fun w => f w + g w) = sumZ (ws.map f) + sumZ (ws.map g)
  | [] => rfl
  | w :: r => by
    rw [List.map_cons, List.map_cons, List.map_cons, sumZ, sumZ, sumZ, sum_two f g r]
    omega
/-- The counts of all words sum up to the row's length. -/
theorem cnt_sum {ws : List ByteArray} (hn : ws.Nodup) : ∀ xs : List ByteArray, (∀ x ∈ xs, x ∈ ws) → sumZ (ws.map fun w => (cntB w xs : Int)) = (xs.length : Int)
  | [], _ => by
    have : ∀ l : List ByteArray, sumZ (l.map fun w => (cntB w [] : Int)) = 0 := by
      intro l
      induction l with
      | nil => rfl
      | cons y l ih => rw [List.map_cons, sumZ, ih]; rfl
    rw [this]
    rfl
  | x :: r, h => by
    have e : (ws.map fun w => (cntB w (x :: r) : Int)) = ws.map fun w => (cntB w r : Int) + ((if x = w then 1 else 0 : Nat) : Int) := by
      refine List.map_congr_left fun w _ => ?_
      unfold cntB
      rw [List.countP_cons]
      by_cases hx : x = w <;> simp [hx]
    rw [e, sum_two, cnt_sum hn r (fun y hy => h y (by simp [hy])), one_of hn (h x (by simp)), List.length_cons]
    omega
theorem cnt_pos {x : ByteArray} {xs : List ByteArray} (h : x ∈ xs) : 1 ≤ cntB x xs := by
  unfold cntB
  exact List.countP_pos_iff.2 ⟨x, h, decide_eq_true rfl⟩
/-- A line for which p holds is found. -/
theorem lines_mem {p : LineZ → Bool} {xs : List LineZ} {k : Nat} {x : LineZ} (hx : xs[k]? = some x) (hp : p x = true) : ∀ n, k < n → (k : Int) ∈ linesK p xs n
  | 0, h => absurd h (Nat.not_lt_zero _)
  | n + 1, h => by
    by_cases hk : k = n
    · subst hk
      rw [linesK_yes hx hp]
      exact List.mem_append_right _ (by simp)
    · have ih := lines_mem hx hp n (by omega)
      rw [linesK]
      split
      · split
        · exact List.mem_append_left _ ih
        · exact ih
      · exact ih

end Go.Proofs.YtcclfmapbgdpdaaGreatDoor
