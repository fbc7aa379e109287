/- Is a number among others: l00Has, slices.Index and slices.Contains over int64s; appending a whole list of numbers. -/
import Derived.Test.YtcclfmapbgdpdaaGreatDoorRows
import Derived.Test.YtcclfmapbgdpdaaGreatDoorAppI
import Derived.Laws.AppendOwnNone
namespace Go.Proofs.YtcclfmapbgdpdaaGreatDoor
open Go.RowKit
set_option linter.unusedVariables false

theorem notmem_snoc {xs : List Int} {k : Nat} {x y : Int} (hx : xs[k]? = some y) (h : x ∉ xs.take k) (hp : y ≠ x) : x ∉ xs.take (k + 1) := by
  rw [take_snoc hx, List.mem_append]
  rintro (h1 | h1)
  · exact h h1
  · simp at h1; exact hp h1.symm
theorem mem_at {xs : List Int} {k : Nat} {x : Int} (hx : xs[k]? = some x) : x ∈ xs := List.mem_of_getElem? hx
theorem notmem_end {xs : List Int} {n : Nat} {x : Int} (hl : xs.length = n) (h : x ∉ xs.take n) : x ∉ xs := by rwa [List.take_of_length_le (by omega)] at h

set_option maxHeartbeats 400000 in
theorem l00Has_calls (A : Option Addr) (n c : Nat) (xs : List Int) (x : Int) (w : World) (h : RdI w A n xs) (hn : n ≤ 1048576) :
    Calls Tryz.prog 187 #[.slice A n c, .int .i64 x] w fun e w' => e = .returned (.bool (decide (x ∈ xs))) ∧ w = w' := by
  have HL := hide h.len
  go_enter Tryz.func187, Tryz.ntmps187
  go_wp2
  go_loop [5] (fun i => ∃ (k : Nat), k ≤ n ∧ i = .int .i64 k ∧ Hid (x ∉ xs.take k)) (fun i => n - (intOf i).toNat)
  case atStart => exact ⟨0, Nat.zero_le _, rfl, by simp [Hid]⟩
  case round =>
    obtain ⟨k, hk, rfl, HC⟩ := hrel
    by_cases hlt : k < n
    · obtain ⟨b, off, y, rfl, hbl, hx, hc, hx1, hx2⟩ := h.at hlt
      by_cases c1 : y = x
      · subst c1
        go_wp2
        go_ret
        exact ⟨ret_bool (decide_eq_true (mem_at hx.out)).symm, rfl⟩
      · have e1 : (y == x) = false := by simpa using c1
        have HN := hide (notmem_snoc hx.out HC.out c1)
        clear c1
        go_wp2
        go_round
        case rel => exact ⟨k + 1, by omega, by go_num, HN⟩
        case measure => simp [intOf]; omega
    · have hkn : k = n := by omega
      subst hkn
      go_wp2
      go_ret
      exact ⟨ret_bool (decide_eq_false (notmem_end HL.out HC.out)).symm, rfl⟩

set_option maxHeartbeats 400000 in
theorem indexI_calls (A : Option Addr) (n c : Nat) (xs : List Int) (x : Int) (w : World) (h : RdI w A n xs) (hn : n ≤ 1048576) :
    Calls Tryz.prog 165 #[.slice A n c, .int .i64 x] w fun e w' => (∃ i : Int, e = .returned (.int .i64 i) ∧ decide (0 ≤ i) = decide (x ∈ xs)) ∧ w = w' := by
  have HL := hide h.len
  go_enter Tryz.func165, Tryz.ntmps165
  go_wp2
  go_loop [8] (fun i => ∃ (k : Nat), k ≤ n ∧ i = .int .i64 k ∧ Hid (x ∉ xs.take k)) (fun i => n - (intOf i).toNat)
  case atStart => exact ⟨0, Nat.zero_le _, rfl, by simp [Hid]⟩
  case round =>
    obtain ⟨k, hk, rfl, HC⟩ := hrel
    by_cases hlt : k < n
    · obtain ⟨b, off, y, rfl, hbl, hx, hc, hx1, hx2⟩ := h.at hlt
      by_cases c1 : x = y
      · subst c1
        go_wp2
        go_ret
        exact ⟨⟨_, rfl, ⟨fun _ => mem_at hx.out, fun _ => by omega⟩⟩, rfl⟩
      · have e1 : (x == y) = false := by simpa using c1
        have HN := hide (notmem_snoc hx.out HC.out (fun e => c1 e.symm))
        clear c1
        go_wp2
        go_round
        case rel => exact ⟨k + 1, by omega, by go_num, HN⟩
        case measure => simp [intOf]; omega
    · have hkn : k = n := by omega
      subst hkn
      go_wp2
      go_ret
      exact ⟨⟨_, rfl, ⟨fun h => absurd h (by omega), fun h => absurd h (notmem_end HL.out HC.out)⟩⟩, rfl⟩

theorem containsI_calls (A : Option Addr) (n c : Nat) (xs : List Int) (x : Int) (w : World) (h : RdI w A n xs) (hn : n ≤ 1048576) :
    Calls Tryz.prog 86 #[.slice A n c, .int .i64 x] w fun e w' => e = .returned (.bool (decide (x ∈ xs))) ∧ w = w' := by
  go_enter Tryz.func86, Tryz.ntmps86
  go_wp2_with fail
  refine (indexI_calls _ _ _ xs x _ h hn).mono ?_
  rintro e w' ⟨⟨i, rfl, hi⟩, rfl⟩
  have HI := hide hi
  clear hi
  go_wp2
  go_ret
  exact ⟨ret_bool HI.out, rfl⟩

/-- Appending a whole list of numbers. -/
theorem appIs {w : World} {ops : Array Oper} {rest : List Oper} {o : Oper} {a : Act} {Q : Exit → Act → World → Prop} (hgd : o.guard = none) (s x : Operand)
    (ho : o.op = .call { callee := .builtin .append, args := #[s, x], argTypes := #[24, 24] })
    (base : Nat) (v : Value) (n : Nat) (xs : List Int) (hs : a.eval s = v) (hown : w.ownsRow base 2 1 v n (cI xs))
    (base2 : Nat) (vx : Value) (m : Nat) (ys : List Int) (hx : a.eval x = vx) (hy : w.ownsRow base2 2 1 vx m (cI ys))
    (hn : n + m ≤ 1099511627776) (hbase : base ≤ w.heap.size)
    (h : ∀ v' w', w'.ownsRow base 2 1 v' (n + m) (cI (xs ++ ys)) → Below base w w' → w.heap.size ≤ w'.heap.size → wpList Tryz.prog ops Q rest (a.put o.dst v') w') : wpList Tryz.prog ops Q (o :: rest) a w := by
  obtain ⟨i, hi, hz0, hz1, hz2⟩ := info_parts Tryz.info2
  rcases hy.2 with ⟨rfl, rfl⟩ | ⟨g, cap, cur, rfl, hbg, hgg, rest'⟩
  · refine wpList_append_own_none hgd s x _ ho base 2 i 1 Tryz.underlying24 hi v n (cI xs) hs hown hx (h v w ?_ (Below.refl _ _) (Nat.le_refl _))
    have h0 : ys = [] := by have := hy.1; simp [cI] at this; exact this
    subst h0
    simpa using hown
  · refine wpList_append_own w hgd s x _ ho base 2 i (.int .i64 0) 1 8 Tryz.underlying24 hi hz0 hz1 hz2 rfl (by decide) v n (cI xs) hs hown ⟨g, 0, none⟩ m cap (cI ys) hx hy.1 (hy.cells rfl) ?_ (by unfold maxLen; omega) (by omega) hbase ?_
    · intro u hu
      obtain ⟨z, _, rfl⟩ := List.mem_map.1 hu
      rfl
    · intro v' w' h1 h2 _
      refine h v' w' (by simpa [cI] using h1) ((Below.refl base w).grown h2 hbase (fun g hg => (hown.lt g hg).1)) h2.size

end Go.Proofs.YtcclfmapbgdpdaaGreatDoor
