/- Common ancestors, of the program and of the reference. -/
import Derived.Test.YtmpfkmbfbeejhaaDoorLine
import Derived.Test.YtmpfkmbfbeejhaaDoorVersioned
namespace Go.Proofs.YtmpfkmbfbeejhaaDoor
open Go.RowKit
set_option linter.unusedVariables false

/-- The first number of one list that is in another one, or 0. -/
def firstIn (xs ys : List Int) : Int := (xs.find? (fun x => decide (x ∈ ys))).getD 0
theorem firstIn_at {xs ys : List Int} {k : Nat} {x : Int} (hx : xs[k]? = some x) (h : ∀ y ∈ xs.take k, y ∉ ys) (hp : x ∈ ys) : firstIn xs ys = x := by
  have hk := (List.getElem?_eq_some_iff.1 hx).1
  have hxe := (List.getElem?_eq_some_iff.1 hx).2
  have e : xs = xs.take k ++ x :: xs.drop (k + 1) := by
    conv => lhs; rw [← List.take_append_drop k xs, List.drop_eq_getElem_cons hk, hxe]
  unfold firstIn
  rw [e, List.find?_append, List.find?_eq_none.2 (fun y hy => by simpa using h y hy)]
  simp [hp]
theorem firstIn_none {xs ys : List Int} {n : Nat} (hl : xs.length = n) (h : ∀ y ∈ xs.take n, y ∉ ys) : firstIn xs ys = 0 := by
  rw [List.take_of_length_le (by omega)] at h
  unfold firstIn
  rw [List.find?_eq_none.2 (fun y hy => by simpa using h y hy)]
  rfl
theorem notin_snoc {xs ys : List Int} {k : Nat} {x : Int} (hx : xs[k]? = some x) (h : ∀ y ∈ xs.take k, y ∉ ys) (hp : x ∉ ys) : ∀ y ∈ xs.take (k + 1), y ∉ ys := by
  intro y hy
  rw [take_snoc hx, List.mem_append] at hy
  rcases hy with hy | hy
  · exact h y hy
  · simp at hy; subst hy; exact hp
/-- The greatest number from which two versions come, or 0. -/
def comV (vs : List VerZ) (a b : Nat) : Int := firstIn (lineV vs a) (lineV vs b)

theorem line_i64 {vs : List VerZ} {k : Nat} (hh : histB vs = true) (hk : k ≤ 1048576) : ∀ x ∈ lineV vs k, I64 x := fun x hx => by
  have := lineV_mem hh k x hx
  exact ⟨by omega, by omega⟩

set_option maxHeartbeats 2000000 in
theorem commonAncestor_calls (A : Option Addr) (n c : Nat) (vs : List VerZ) (a b : Nat) (w : World) (h : RdVz w A n vs) (hn : n ≤ 1048576) (hh : histB vs = true) (ha : a ≤ n) (hb : b ≤ n) :
    Calls Tryd.prog 44 #[.slice A n c, .int .i64 a, .int .i64 b] w fun e w' => e = .returned (.int .i64 (comV vs a b)) ∧ Below w.heap.size w w' := by
  have hca := lineV_len hh a
  have hcb := lineV_len hh b
  have HD : Hid (comV vs a b = firstIn (lineV vs a) (lineV vs b)) := rfl
  go_enter Tryd.func44, Tryd.ntmps44
  go_wp2_with fail
  refine (lineOf_calls _ _ _ vs b _ h hn hh hb).mono ?_
  rintro e w1 ⟨v1, rfl, hown1, hb1⟩
  obtain ⟨A1, c1, rfl⟩ := own_slice hown1
  have r1 := RdI.of_own hown1 (line_i64 hh (by omega))
  go_wp2_with fail
  refine (lineOf_calls _ _ _ vs a _ (h.below hb1 (Nat.le_refl _)) hn hh ha).mono ?_
  rintro e w2 ⟨v2, rfl, hown2, hb2⟩
  obtain ⟨A2, c2, rfl⟩ := own_slice hown2
  have r1 := r1.below hb2 (Nat.le_refl _)
  have r2 := RdI.of_own hown2 (line_i64 hh (by omega))
  have hbx := hide (hb1.trans (hb2.mono hb1.size))
  clear hown1 hown2 hb1 hb2 h hh
  generalize lineV vs a = xs at *
  generalize lineV vs b = ys at *
  have HL := hide r2.len
  go_wp2
  go_loop [17] (fun i => ∃ (k : Nat), k ≤ xs.length ∧ i = .int .i64 k ∧ Hid (∀ y ∈ xs.take k, y ∉ ys)) (fun i => xs.length - (intOf i).toNat)
  case atStart => exact ⟨0, Nat.zero_le _, rfl, by simp [Hid]⟩
  case round =>
    obtain ⟨k, hk, rfl, HC⟩ := hrel
    by_cases hlt : k < xs.length
    · obtain ⟨b', off, x, rfl, hbl, hx, hc, hx1, hx2⟩ := r2.at hlt
      rcases b_cases (decide (x ∈ ys)) with hd | hd
      · have HN := hide (notin_snoc hx.out HC.out (of_decide_eq_false hd))
        go_wp2_with (go_at_call 67; refine (containsI_calls _ _ _ ys x _ r1 (by omega)).mono ?_; rw [hd]; rintro e w' ⟨rfl, rfl⟩)
        go_round
        case rel => exact ⟨k + 1, by omega, by go_num, HN⟩
        case measure => simp [intOf]; omega
      · have HN := hide (firstIn_at hx.out HC.out (of_decide_eq_true hd))
        go_wp2_with (go_at_call 67; refine (containsI_calls _ _ _ ys x _ r1 (by omega)).mono ?_; rw [hd]; rintro e w' ⟨rfl, rfl⟩)
        go_ret
        exact ⟨ret_int (HD.out.trans HN.out).symm, hbx.out⟩
    · have hkn : k = xs.length := by omega
      have HN := hide (firstIn_none rfl (hkn ▸ HC.out))
      go_wp2
      go_ret
      exact ⟨ret_int (HD.out.trans HN.out).symm, hbx.out⟩

theorem line_cons {vs : List VerZ} (hh : histB vs = true) {k : Nat} (hk : 1 ≤ k) : (k : Int) :: (lineV vs k).tail = lineV vs k ∧ (lineV vs k).tail.length + 1 = (lineV vs k).length := by
  obtain ⟨k', rfl⟩ : ∃ k', k = k' + 1 := ⟨k - 1, by omega⟩
  rw [lineV_step hh]
  simp

/-- What CommonAncestor returns: the number, and the code. -/
def comC (vs : List VerZ) (a b : Int) : Int := codeV vs [a, b]
def comR (vs : List VerZ) (a b : Int) : Int := if comC vs a b = 0 then comV vs a.toNat b.toNat else 0
theorem codeV_two {vs : List VerZ} {a b : Int} (h : histB vs = true) : codeV vs [a, b] = if withinB a 1 vs.length && withinB b 1 vs.length then 0 else 3 := by
  unfold codeV offB
  rw [h]
  rcases b_cases (withinB a 1 vs.length) with h1 | h1 <;> rcases b_cases (withinB b 1 vs.length) with h2 | h2 <;> simp [h1, h2]


set_option maxHeartbeats 2000000 in
theorem implCommonAncestor_calls (A : Option Addr) (n c : Nat) (vs : List VerZ) (a b : Int) (w : World) (h : RdVz w A n vs) (ha : I64 a) (hb : I64 b) (hn : n ≤ 1048576) (hs : Short vs) :
    Calls Tryd.prog 16 #[.slice A n c, .int .i64 a, .int .i64 b] w fun e w' => e = .returned (.tuple #[.int .i64 (comR vs a b), .int .i64 (comC vs a b)]) ∧ Below w.heap.size w w' := by
  have HL := hide h.len
  have hlit := World.ownsRow_lit (base := w.heap.size) (e := 2) (size := 1) w #[.int .i64 a, .int .i64 b] 2 (Nat.le_refl _) (by unfold maxLen; omega) rfl
  have hba : Below w.heap.size w (w.alloc (.cells #[.int .i64 a, .int .i64 b] 2)) := (Below.refl _ _).alloc (Nat.le_refl _) _
  have hr : RdI (w.alloc (.cells #[.int .i64 a, .int .i64 b] 2)) (some ⟨w.heap.size, 0, none⟩) 2 [a, b] := RdI.of_own (by simpa [cI] using hlit) (by
    intro x hx
    simp at hx
    rcases hx with rfl | rfl
    · exact ha
    · exact hb)
  clear hlit
  have HV := versioned_calls A n c vs (some ⟨w.heap.size, 0, none⟩) 2 2 [a, b] _ (h.below hba (Nat.le_refl _)) hn hs hr (by omega)
  go_enter Tryd.func16, Tryd.ntmps16
  go_wp2_with fail
  refine HV.mono ?_
  clear HV hr
  rintro e w1 ⟨rfl, hb1⟩
  have hbx := hba.trans (hb1.mono hba.size)
  have HC : Hid (comC vs a b = codeV vs [a, b]) := rfl
  by_cases h0 : codeV vs [a, b] = 0
  · have HR : Hid (comR vs a b = comV vs a.toNat b.toNat) := by unfold Hid comR comC; rw [h0]; rfl
    have hd : histB vs = true := by
      rcases b_cases (histB vs) with hd | hd
      · rw [codeV_bad hd] at h0; omega
      · exact hd
    rw [codeV_two hd, HL.out] at h0
    have h12 : withinB a 1 n = true ∧ withinB b 1 n = true := by
      rcases b_cases (withinB a 1 n) with h1 | h1 <;> rcases b_cases (withinB b 1 n) with h2 | h2 <;> simp [h1, h2] at h0 ⊢
    have q1 := withinB_iff.1 h12.1
    have q2 := withinB_iff.1 h12.2
    have HC0 : Hid (comC vs a b = 0) := by unfold Hid comC; rw [codeV_two hd, HL.out]; exact h0
    have HX : Hid (codeV vs [a, b] = 0) := HC0
    clear h0 h12
    obtain ⟨a', rfl⟩ : ∃ a' : Nat, a = (a' : Int) := ⟨a.toNat, by omega⟩
    obtain ⟨b', rfl⟩ : ∃ b' : Nat, b = (b' : Int) := ⟨b.toNat, by omega⟩
    rw [HX.out]
    go_wp2_with fail
    refine (commonAncestor_calls _ _ _ vs a' b' _ (h.below hbx (Nat.le_refl _)) hn hd (by omega) (by omega)).mono ?_
    rintro e w2 ⟨rfl, hb2⟩
    go_wp2
    go_ret2
    exact ⟨ret_two (congrArg (Value.int .i64) HR.out.symm) (congrArg (Value.int .i64) HC0.out.symm), hbx.trans (hb2.mono hbx.size)⟩
  · have HR : Hid (comR vs a b = 0) := by unfold Hid comR comC; rw [if_neg h0]
    have e0 : (codeV vs [a, b] != 0) = true := by simpa using h0
    clear h0
    go_wp2
    go_ret2
    exact ⟨ret_two (congrArg (Value.int .i64) HR.out.symm) rfl, hbx⟩

end Go.Proofs.YtmpfkmbfbeejhaaDoor
