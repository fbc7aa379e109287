/- Looking up a name in a state: settingAt, valueOf and l27At. -/
import Derived.Test.YtmpfkmbfbeejhaaMg
import Derived.Test.YtmpfkmbfbeejhaaCmpS
namespace Go.Proofs.Ytmpfkmbfbeejhaa
open Go.RowKit
set_option linter.unusedVariables false

theorem settingAt1_q (s : ByteArray) (v : Int) (nm : ByteArray) (r : Int) (w : World) (hr : cmpS s nm = r) :
    Calls Try.prog 123 #[.agg #[.string s, .int .i64 v], .string nm] w fun e w' => e = .returned (.int .i64 r) ∧ Below w.heap.size w w' := by
  have HR := hide hr
  clear hr
  go_enter Try.func123, Try.ntmps123
  go_wp2_with (go_at_call 124; refine (compareS_q _ _ r _ HR.out).mono ?_; rintro e w' ⟨rfl, rfl⟩)
  go_ret
  exact ⟨rfl, (Below.refl _ _).alloc (Nat.le_refl _) _⟩

/-- What the binary search gives: the place of a name, and whether it is there. -/
def SeaPost (ss : List SetZ) (nm : ByteArray) (w : World) (e : Ending) (w' : World) : Prop :=
  ∃ (i : Nat) (q : Bool), e = .returned (.tuple #[.int .i64 i, .bool q]) ∧ IsIdx ss nm i ∧ (q = true ↔ ∃ v, ss[i]? = some ⟨nm, v⟩) ∧ Below w.heap.size w w'

set_option maxHeartbeats 4000000 in
theorem searchS_calls (A : Option Addr) (n c : Nat) (ss : List SetZ) (nm : ByteArray) (w : World) (h : RdS w A n ss) (hn : n ≤ 1048576) (hs : SortedZ ss) :
    Calls Try.prog 122 #[.slice A n c, .string nm, .func (.func 123) #[] #[]] w (SeaPost ss nm w) := by
  have HL := hide h.2.1
  have HS := hide hs
  clear hs
  go_enter Try.func122, Try.ntmps122
  go_wp2
  go_loopw [9, 10] (fun a b wr => ∃ (i j : Nat), i ≤ j ∧ j ≤ n ∧ a = .int .i64 i ∧ b = .int .i64 j ∧ Hid ((∀ (k : Nat) (s : SetZ), ss[k]? = some s → k < i → strLess s.name nm = true) ∧ ∀ (k : Nat) (s : SetZ), ss[k]? = some s → j ≤ k → strLess s.name nm = false) ∧ Below w.heap.size w wr) (fun a b _ => (intOf b).toNat - (intOf a).toNat)
  case atStart => exact ⟨0, n, Nat.zero_le _, Nat.le_refl _, rfl, rfl, ⟨fun k s _ h => absurd h (by omega), fun k s hk h => by have h1 := (List.getElem?_eq_some_iff.1 hk).1; rw [HL.out] at h1; omega⟩, Below.refl _ _⟩
  case round =>
    obtain ⟨i, j, hij, hj, rfl, rfl, HB, hb⟩ := hrel
    by_cases hlt : i < j
    · obtain ⟨b, off, s, v, rfl, hbl, hx, hc, hc2, hs1, hv1, hv2⟩ := (h.below hb (Nat.le_refl _)).at (k := (i + j) / 2) (by omega)
      have m1 : (i + j) / 2 < j := by omega
      have m2 : i ≤ (i + j) / 2 := by omega
      rcases cmpS_ways s nm with ⟨q1, q2, q3, q4⟩ | ⟨q1, q2, q3, q4⟩ | ⟨q1, q2, q3, q4⟩
      · have HN := hide (And.intro (idx_low HS.out hx.out q1) HB.out.2)
        have HQ := hide q4
        clear q1 q2 q3 q4
        go_wp2_with (go_at_call 123; refine (settingAt1_q _ _ _ _ _ HQ.out).mono ?_; rintro e w1 ⟨rfl, hb1⟩)
        go_roundw
        case rel => exact ⟨(i + j) / 2 + 1, j, by omega, hj, by go_num, rfl, HN, hb.trans (hb1.mono hb.size)⟩
        case measure => simp [intOf]; omega
      all_goals
        have HN := hide (And.intro HB.out.1 (idx_high HS.out hx.out q1))
        have HQ := hide q4
        clear q1 q2 q3 q4
        go_wp2_with (go_at_call 123; refine (settingAt1_q _ _ _ _ _ HQ.out).mono ?_; rintro e w1 ⟨rfl, hb1⟩)
        go_roundw
        case rel => exact ⟨i, (i + j) / 2, by omega, by omega, rfl, by go_num, HN, hb.trans (hb1.mono hb.size)⟩
        case measure => simp [intOf]; omega
    · have hkn : i = j := by omega
      subst hkn
      by_cases hin : i < n
      · obtain ⟨b, off, s, v, rfl, hbl, hx, hc, hc2, hs1, hv1, hv2⟩ := (h.below hb (Nat.le_refl _)).at hin
        have HI : Hid (IsIdx ss nm i) := ⟨by rw [HL.out]; exact hj, HB.out⟩
        rcases cmpS_ways s nm with ⟨q1, q2, q3, q4⟩ | ⟨q1, q2, q3, q4⟩ | ⟨q1, q2, q3, q4⟩
        case inr.inl =>
          have HF : Hid (∃ v, ss[i]? = some (⟨nm, v⟩ : SetZ)) := ⟨v, by rw [hx.out, q3]⟩
          have HQ := hide q4
          clear q1 q2 q3 q4
          go_wp2_with (go_at_call 123; refine (settingAt1_q _ _ _ _ _ HQ.out).mono ?_; rintro e w1 ⟨rfl, hb1⟩)
          go_ret2
          exact ⟨i, true, rfl, HI.out, ⟨fun _ => HF.out, fun _ => rfl⟩, hb.trans (hb1.mono hb.size)⟩
        all_goals
          have HF : Hid (¬ ∃ v, ss[i]? = some (⟨nm, v⟩ : SetZ)) := by
            rintro ⟨v', hv'⟩
            rw [hx.out] at hv'
            exact q3 (congrArg SetZ.name (Option.some.inj hv'))
          have HQ := hide q4
          clear q1 q2 q3 q4
          go_wp2_with (go_at_call 123; refine (settingAt1_q _ _ _ _ _ HQ.out).mono ?_; rintro e w1 ⟨rfl, hb1⟩)
          go_ret2
          exact ⟨i, false, rfl, HI.out, ⟨(fun h => by cases h), fun h => absurd h HF.out⟩, hb.trans (hb1.mono hb.size)⟩
      · have HI : Hid (IsIdx ss nm i) := ⟨by rw [HL.out]; exact hj, HB.out⟩
        have HF : Hid (¬ ∃ v, ss[i]? = some (⟨nm, v⟩ : SetZ)) := by
          rintro ⟨v', hv'⟩
          have h1 := (List.getElem?_eq_some_iff.1 hv').1
          rw [HL.out] at h1
          exact hin h1
        go_wp2
        go_ret2
        exact ⟨i, false, rfl, HI.out, ⟨(fun h => by cases h), fun h => absurd h HF.out⟩, hb⟩

theorem settingAt_calls (A : Option Addr) (n c : Nat) (ss : List SetZ) (nm : ByteArray) (w : World) (h : RdS w A n ss) (hn : n ≤ 1048576) (hs : SortedZ ss) :
    Calls Try.prog 92 #[.slice A n c, .string nm] w (SeaPost ss nm w) := by
  have HC := hide (searchS_calls A n c ss nm w h hn hs)
  clear h hs
  go_enter Try.func92, Try.ntmps92
  go_wp2_with fail
  refine HC.out.mono ?_
  rintro e w1 ⟨i, q, rfl, hi, hq, hb⟩
  have H := hide (And.intro hi hq)
  clear hi hq
  go_wp2
  go_ret2
  exact ⟨i, q, rfl, H.out.1, H.out.2, hb⟩

set_option maxHeartbeats 1000000 in
theorem valueOf_calls (A : Option Addr) (n c : Nat) (ss : List SetZ) (nm : ByteArray) (w : World) (h : RdS w A n ss) (hn : n ≤ 1048576) (hs : SortedZ ss) :
    Calls Try.prog 64 #[.slice A n c, .string nm] w fun e w' => e = .returned (.int .i64 (valZ ss nm)) ∧ Below w.heap.size w w' := by
  have HL := hide h.2.1
  have HS := hide hs
  have HC := hide (settingAt_calls A n c ss nm w h hn hs)
  clear hs
  go_enter Try.func64, Try.ntmps64
  go_wp2_with fail
  refine HC.out.mono ?_
  rintro e w1 ⟨i, q, rfl, hi, hq, hb⟩
  have HI := hide (idx_get hi HS.out)
  have hi1 := hi.1
  rw [HL.out] at hi1
  rcases b_cases q with rfl | rfl
  · have HV : Hid (valZ ss nm = -1) := by
      unfold Hid valZ
      rw [HI.out]
      rcases hx : ss[i]? with _ | s
      · rfl
      · simp only
        rw [if_neg]
        rintro rfl
        have := hq.2 ⟨s.value, hx⟩
        cases this
    clear hi hq
    go_wp2
    go_ret
    exact ⟨ret_int HV.out.symm, hb⟩
  · obtain ⟨v, hv⟩ := hq.1 rfl
    have hin : i < n := by have h1 := (List.getElem?_eq_some_iff.1 hv).1; rw [HL.out] at h1; exact h1
    have HV : Hid (valZ ss nm = v) := by
      unfold Hid valZ
      rw [HI.out, hv]
      simp
    obtain ⟨b, off, s, v', rfl, hbl, hx, hc, hc2, hs1, hv1, hv2⟩ := (h.below hb (Nat.le_refl _)).at hin
    obtain ⟨rfl, rfl⟩ : s = nm ∧ v' = v := by
      have := hx.out
      rw [hv] at this
      have h2 := Option.some.inj this
      injection h2 with h3 h4
      exact ⟨h3.symm, h4.symm⟩
    clear hi hq hv
    go_wp2
    go_ret
    exact ⟨ret_int HV.out.symm, hb⟩

/-- What l27At gives. -/
def AtPost (ss : List SetZ) (nm : ByteArray) (w : World) (e : Ending) (w' : World) : Prop :=
  ∃ r : Int, e = .returned (.int .i64 r) ∧ (r = -1 ∧ hasZ ss nm = false ∨ ∃ (k : Nat) (v : Int), r = k ∧ ss[k]? = some ⟨nm, v⟩) ∧ w = w'

theorem has_snoc {ss : List SetZ} {nm : ByteArray} {k : Nat} {s : SetZ} (hx : ss[k]? = some s) (h : hasZ (ss.take k) nm = false) (hp : s.name ≠ nm) : hasZ (ss.take (k + 1)) nm = false := by
  rw [take_snoc hx]
  unfold hasZ at *
  rw [List.any_append, h]
  simpa using hp

set_option maxHeartbeats 1000000 in
theorem l27At_calls (A : Option Addr) (n c : Nat) (ss : List SetZ) (nm : ByteArray) (w : World) (h : RdS w A n ss) (hn : n ≤ 1048576) :
    Calls Try.prog 84 #[.slice A n c, .string nm] w (AtPost ss nm w) := by
  have HL := hide h.2.1
  go_enter Try.func84, Try.ntmps84
  go_wp2
  go_loop [5] (fun i => ∃ (k : Nat), k ≤ n ∧ i = .int .i64 k ∧ Hid (hasZ (ss.take k) nm = false)) (fun i => n - (intOf i).toNat)
  case atStart => exact ⟨0, Nat.zero_le _, rfl, by simp [Hid, hasZ]⟩
  case round =>
    obtain ⟨k, hk, rfl, HC⟩ := hrel
    by_cases hlt : k < n
    · obtain ⟨b, off, s, v, rfl, hbl, hx, hc, hc2, hs1, hv1, hv2⟩ := h.at hlt
      by_cases c1 : s = nm
      · subst c1
        go_wp2
        go_ret
        exact ⟨k, rfl, .inr ⟨k, v, rfl, hx.out⟩, rfl⟩
      · obtain ⟨e1, e2⟩ := str_ne c1
        have HN := hide (has_snoc hx.out HC.out c1)
        clear c1
        go_wp2
        go_round
        case rel => exact ⟨k + 1, by omega, by go_num, HN⟩
        case measure => simp [intOf]; omega
    · have hkn : k = n := by omega
      subst hkn
      have HN : Hid (hasZ ss nm = false) := by
        have := HC.out
        rwa [List.take_of_length_le (by rw [HL.out]; omega)] at this
      go_wp2
      go_ret
      exact ⟨-1, rfl, .inl ⟨rfl, HN.out⟩, rfl⟩

end Go.Proofs.Ytmpfkmbfbeejhaa
