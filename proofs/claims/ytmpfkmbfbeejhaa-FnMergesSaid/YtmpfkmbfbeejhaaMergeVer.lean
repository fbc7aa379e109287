/- MergeVersions of the program and of the reference. -/
import Derived.Test.YtmpfkmbfbeejhaaConfl
import Derived.Test.YtmpfkmbfbeejhaaCommitState
import Derived.Test.YtmpfkmbfbeejhaaStOf
namespace Go.Proofs.Ytmpfkmbfbeejhaa
open Go.RowKit
set_option linter.unusedVariables false

theorem comV_range {vs : List VerZ} (h : histB vs = true) (a b : Nat) : ∃ k : Nat, comV vs a b = (k : Int) ∧ k ≤ a := by
  unfold comV firstIn
  rcases hq : (lineV vs a).find? (fun x => decide (x ∈ lineV vs b)) with _ | x
  · exact ⟨0, rfl, Nat.zero_le _⟩
  · have := lineV_mem h a x (List.mem_of_find?_eq_some hq)
    exact ⟨x.toNat, by simp only [Option.getD_some]; omega, by omega⟩

def mvS (vs : List VerZ) (a b : Nat) : Int × List SetZ := (mrgC (stV vs (comV vs a b).toNat) (stV vs a) (stV vs b), mrgR (stV vs (comV vs a b).toNat) (stV vs a) (stV vs b))
def mvOk (vs : List VerZ) (a b : Int) : Bool := withinB a 1 vs.length && withinB b 1 vs.length
def mvC (vs : List VerZ) (a b : Int) (me : ByteArray) : Int := if histB vs && memoB me then (if mvOk vs a b then (if (mvS vs a.toNat b.toNat).1 = 0 then addC vs else (mvS vs a.toNat b.toNat).1) else 3) else 1
def mvR (vs : List VerZ) (a b : Int) (me : ByteArray) : List VerZ := if histB vs && memoB me then (if mvOk vs a b then (if (mvS vs a.toNat b.toNat).1 = 0 then addR vs a me (mvS vs a.toNat b.toNat).2 else []) else []) else []
def MvPost (vs : List VerZ) (a b : Int) (me : ByteArray) (w : World) (e : Ending) (w' : World) : Prop :=
  ∃ A' n' c', e = .returned (.tuple #[.slice A' n' c', .int .i64 (mvC vs a b me)]) ∧ FrVz w' w.heap.size w'.heap.size A' n' (mvR vs a b me) ∧ n' ≤ 1048576 ∧ Below w.heap.size w w'
theorem mv_bad {vs : List VerZ} {a b : Int} {me : ByteArray} (h : (histB vs && memoB me) = false) : mvC vs a b me = 1 ∧ mvR vs a b me = [] := by unfold mvC mvR; rw [h]; exact ⟨rfl, rfl⟩
theorem mv_off {vs : List VerZ} {a b : Int} {me : ByteArray} {n : Nat} (hl : vs.length = n) (h1 : histB vs = true) (h2 : memoB me = true) (h : (withinB a 1 n && withinB b 1 n) = false) : mvC vs a b me = 3 ∧ mvR vs a b me = [] := by
  unfold mvC mvR mvOk; rw [h1, h2, hl, h]; exact ⟨rfl, rfl⟩
theorem mv_err {vs : List VerZ} {a b : Int} {me : ByteArray} {n : Nat} (hl : vs.length = n) (h1 : histB vs = true) (h2 : memoB me = true) (h3 : withinB a 1 n = true) (h4 : withinB b 1 n = true) (h : (mvS vs a.toNat b.toNat).1 ≠ 0) : mvC vs a b me = (mvS vs a.toNat b.toNat).1 ∧ mvR vs a b me = [] := by
  unfold mvC mvR mvOk; rw [h1, h2, hl, h3, h4]; simp [h]
theorem mv_ok {vs : List VerZ} {a b : Int} {me : ByteArray} {n : Nat} (hl : vs.length = n) (h1 : histB vs = true) (h2 : memoB me = true) (h3 : withinB a 1 n = true) (h4 : withinB b 1 n = true) (h : (mvS vs a.toNat b.toNat).1 = 0) : mvC vs a b me = addC vs ∧ mvR vs a b me = addR vs a me (mvS vs a.toNat b.toNat).2 := by
  unfold mvC mvR mvOk; rw [h1, h2, hl, h3, h4]; simp [h]
theorem MvPost.none {vs : List VerZ} {a b : Int} {me : ByteArray} {w w' : World} {z : Int} (h : mvC vs a b me = z ∧ mvR vs a b me = []) (hb : Below w.heap.size w w') : MvPost vs a b me w (.returned (.tuple #[.slice none 0 0, .int .i64 z])) w' :=
  ⟨Option.none, 0, 0, ret_two rfl (congrArg (Value.int .i64) h.1.symm), by rw [h.2]; exact FrVz.nil, by omega, hb⟩
theorem mrgR_len (a b c : List SetZ) : (mrgR a b c).length ≤ 24 := by
  unfold mrgR
  split
  · split
    · assumption
    · simp
  · simp
theorem mvR_short {vs : List VerZ} {a b : Int} {me : ByteArray} (h : Short vs) : Short (mvR vs a b me) := by
  unfold mvR addR
  intro v hv
  split at hv
  · split at hv
    · split at hv
      · split at hv
        · simp at hv
        · rcases List.mem_append.1 hv with hv | hv
          · exact h v hv
          · simp only [List.mem_singleton] at hv; subst hv
            have := mrgR_len (stV vs (comV vs a.toNat b.toNat).toNat) (stV vs a.toNat) (stV vs b.toNat)
            simp only [mvS]; omega
      · simp at hv
    · simp at hv
  · simp at hv
theorem codeV_pair {vs : List VerZ} {a b : Int} {n : Nat} (hl : vs.length = n) (h : histB vs = true) {q : Bool} (hq : (withinB a 1 n && withinB b 1 n) = q) : codeV vs [a, b] = if q then 0 else 3 := by rw [codeV_two h, hl, hq]

set_option maxHeartbeats 4000000 in
theorem implMergeVersions_calls (A : Option Addr) (n c : Nat) (vs : List VerZ) (a b : Int) (me : ByteArray) (w : World) (h : RdVz w A n vs) (ha : I64 a) (hb : I64 b) (hme : me.size ≤ 9223372036854775807) (hn : n ≤ 1048576) (hmq : me.size ≤ 1048576) (hs : Short vs) :
    Calls Try.prog 37 #[.slice A n c, .int .i64 a, .int .i64 b, .string me] w (MvPost vs a b me w) := by
  have HL := hide h.len
  rcases b_cases (memoB me) with q2 | q2
  · have HC := hide (mv_bad (vs := vs) (a := a) (b := b) (me := me) (by rw [q2]; simp))
    have H2 := hide q2
    clear q2
    go_enter Try.func37, Try.ntmps37
    go_wp2_with fail
    refine (validMemo_q _ _ _ hme H2.out).mono ?_
    rintro e w1 ⟨rfl, hb1⟩
    go_wp2
    go_ret2
    exact MvPost.none HC.out hb1
  rcases b_cases (histB vs) with q1 | q1
  · have HC := hide (mv_bad (a := a) (b := b) (me := me) (by rw [q1]; rfl))
    have HCD : Hid (codeV vs [a, b] = 1) := codeV_bad q1
    have H1 := hide q1
    have H2 := hide q2
    clear q1 q2
    go_enter Try.func37, Try.ntmps37
    go_wp2_with fail
    refine (validMemo_q _ _ _ hme H2.out).mono ?_
    rintro e w1 ⟨rfl, hb1⟩
    have hba : Below w1.heap.size w1 (w1.alloc (.cells #[.int .i64 a, .int .i64 b] 2)) := (Below.refl _ _).alloc (Nat.le_refl _) _
    have hlit := World.ownsRow_lit (base := w1.heap.size) (e := 2) (size := 1) w1 #[.int .i64 a, .int .i64 b] 2 (Nat.le_refl _) (by unfold maxLen; omega) rfl
    have hr : RdI (w1.alloc (.cells #[.int .i64 a, .int .i64 b] 2)) (some ⟨w1.heap.size, 0, none⟩) 2 [(a : Int), (b : Int)] := RdI.of_own (by simpa [cI] using hlit) (by
      intro x hx
      simp at hx
      rcases hx with rfl | rfl
      · exact ha
      · exact hb)
    have x1 := hb1.trans (hba.mono hb1.size)
    have HV := hide (versioned_calls A n c vs (some ⟨w1.heap.size, 0, none⟩) 2 2 [(a : Int), (b : Int)] _ (h.below x1 (Nat.le_refl _)) hn hs hr (by omega))
    rw [HCD.out] at HV
    clear hlit hr hba
    go_wp2_with fail
    refine HV.out.mono ?_
    clear HV
    rintro e w2 ⟨rfl, hb2⟩
    have x2 := x1.trans (hb2.mono x1.size)
    go_wp2
    go_ret2
    exact MvPost.none HC.out x2
  rcases b_cases (withinB a 1 n && withinB b 1 n) with q34 | q34
  · have HC := hide (mv_off (a := a) (b := b) HL.out q1 q2 q34)
    have HCD : Hid (codeV vs [a, b] = 3) := codeV_pair HL.out q1 q34
    have H2 := hide q2
    clear q1 q2 q34
    go_enter Try.func37, Try.ntmps37
    go_wp2_with fail
    refine (validMemo_q _ _ _ hme H2.out).mono ?_
    rintro e w1 ⟨rfl, hb1⟩
    have hba : Below w1.heap.size w1 (w1.alloc (.cells #[.int .i64 a, .int .i64 b] 2)) := (Below.refl _ _).alloc (Nat.le_refl _) _
    have hlit := World.ownsRow_lit (base := w1.heap.size) (e := 2) (size := 1) w1 #[.int .i64 a, .int .i64 b] 2 (Nat.le_refl _) (by unfold maxLen; omega) rfl
    have hr : RdI (w1.alloc (.cells #[.int .i64 a, .int .i64 b] 2)) (some ⟨w1.heap.size, 0, none⟩) 2 [(a : Int), (b : Int)] := RdI.of_own (by simpa [cI] using hlit) (by
      intro x hx
      simp at hx
      rcases hx with rfl | rfl
      · exact ha
      · exact hb)
    have x1 := hb1.trans (hba.mono hb1.size)
    have HV := hide (versioned_calls A n c vs (some ⟨w1.heap.size, 0, none⟩) 2 2 [(a : Int), (b : Int)] _ (h.below x1 (Nat.le_refl _)) hn hs hr (by omega))
    rw [HCD.out] at HV
    clear hlit hr hba
    go_wp2_with fail
    refine HV.out.mono ?_
    clear HV
    rintro e w2 ⟨rfl, hb2⟩
    have x2 := x1.trans (hb2.mono x1.size)
    go_wp2
    go_ret2
    exact MvPost.none HC.out x2
  have HCD : Hid (codeV vs [a, b] = 0) := codeV_pair HL.out q1 q34
  obtain ⟨q3, q4⟩ := Bool.and_eq_true_iff.1 q34
  clear q34
  have h32 := hist_len q1
  rw [HL.out] at h32
  have r3 := withinB_iff.1 q3
  have r4 := withinB_iff.1 q4
  have H1 := hide q1
  have H2 := hide q2
  have H3 := hide q3
  have H4 := hide q4
  clear q1 q2 q3 q4
  obtain ⟨a, rfl⟩ : ∃ a0 : Nat, a = (a0 : Int) := ⟨a.toNat, by omega⟩
  obtain ⟨b, rfl⟩ : ∃ b0 : Nat, b = (b0 : Int) := ⟨b.toNat, by omega⟩
  go_enter Try.func37, Try.ntmps37
  go_wp2_with fail
  refine (validMemo_q _ _ _ hme H2.out).mono ?_
  rintro e w1 ⟨rfl, hb1⟩
  have hba : Below w1.heap.size w1 (w1.alloc (.cells #[.int .i64 a, .int .i64 b] 2)) := (Below.refl _ _).alloc (Nat.le_refl _) _
  have hlit := World.ownsRow_lit (base := w1.heap.size) (e := 2) (size := 1) w1 #[.int .i64 a, .int .i64 b] 2 (Nat.le_refl _) (by unfold maxLen; omega) rfl
  have hr : RdI (w1.alloc (.cells #[.int .i64 a, .int .i64 b] 2)) (some ⟨w1.heap.size, 0, none⟩) 2 [(a : Int), (b : Int)] := RdI.of_own (by simpa [cI] using hlit) (by
    intro x hx
    simp at hx
    rcases hx with rfl | rfl
    · exact ha
    · exact hb)
  have x1 := hb1.trans (hba.mono hb1.size)
  have HV := hide (versioned_calls A n c vs (some ⟨w1.heap.size, 0, none⟩) 2 2 [(a : Int), (b : Int)] _ (h.below x1 (Nat.le_refl _)) hn hs hr (by omega))
  rw [HCD.out] at HV
  clear hlit hr hba
  go_wp2_with fail
  refine HV.out.mono ?_
  clear HV
  rintro e w2 ⟨rfl, hb2⟩
  have x2 := x1.trans (hb2.mono x1.size)
  have hh := H1.out
  go_wp2_with fail
  refine (commonAncestor_calls _ _ _ vs a b _ (h.below x2 (Nat.le_refl _)) hn hh (by omega) (by omega)).mono ?_
  rintro e w4 ⟨rfl, hb4⟩
  have x4 := x2.trans (hb4.mono x2.size)
  obtain ⟨kc, hkc, hka⟩ := comV_range hh a b
  have HKC : Hid (mvS vs a b = (mrgC (stV vs kc) (stV vs a) (stV vs b), mrgR (stV vs kc) (stV vs a) (stV vs b))) := by unfold Hid mvS; rw [hkc, Int.toNat_natCast]
  rw [hkc]
  clear hkc hh
  go_wp2_with fail
  refine (stateOf_calls _ _ _ vs kc _ (h.below x4 (Nat.le_refl _)) hn (by omega)).mono ?_
  rintro e w5 ⟨A5, n5, c5, rfl, hS5, hb5⟩
  have x5 := x4.trans (hb5.mono x4.size)
  have S5 := hide (And.intro hS5 hb5)
  clear hS5 hb5
  go_wp2_with fail
  refine (stateOf_calls _ _ _ vs a _ (h.below x5 (Nat.le_refl _)) hn (by omega)).mono ?_
  rintro e w6 ⟨A6, n6, c6, rfl, hS6, hb6⟩
  have x6 := x5.trans (hb6.mono x5.size)
  have S6 := hide (And.intro hS6 hb6)
  clear hS6 hb6
  go_wp2_with fail
  refine (stateOf_calls _ _ _ vs b _ (h.below x6 (Nat.le_refl _)) hn (by omega)).mono ?_
  rintro e w7 ⟨A7, n7, c7, rfl, hS7, hb7⟩
  have x7 := x6.trans (hb7.mono x6.size)
  have S7 := hide (And.intro hS7 hb7)
  clear hS7 hb7
  have g5 := stV_valid H1.out kc
  have g6 := stV_valid H1.out a
  have g7 := stV_valid H1.out b
  have R5 := (S5.out.1.below S6.out.2 (Nat.le_refl _)).below S7.out.2 (Nat.le_refl _)
  have R6 := S6.out.1.below S7.out.2 (Nat.le_refl _)
  have R7 := S7.out.1
  have m5 : n5 ≤ 24 := by have := state_len g5; rw [R5.2.1] at this; exact this
  have m6 : n6 ≤ 24 := by have := state_len g6; rw [R6.2.1] at this; exact this
  have m7 : n7 ≤ 24 := by have := state_len g7; rw [R7.2.1] at this; exact this
  have HMM := hide (con_ok (a := stV vs kc) (b := stV vs a) (c := stV vs b) (by unfold three; rw [g5, g6, g7]; rfl))
  have HM := hide (implMergeStates_calls A5 n5 c5 A6 n6 c6 A7 n7 c7 (stV vs kc) (stV vs a) (stV vs b) w7 R5 R6 R7 (by omega) (by omega) (by omega))
  clear g5 g6 g7 R5 R6 R7 S5 S6 S7
  go_wp2_with fail
  refine HM.out.mono ?_
  rintro e w8 ⟨A8, n8, c8, rfl, hF8, hn8, hb8⟩
  have x8 := x7.trans (hb8.mono x7.size)
  rw [HMM.out.2.2.2] at hF8
  rw [HMM.out.2.2.1]
  have F8 := hide (And.intro hF8 hb8)
  clear hF8 hb8 HM
  by_cases q0 : mrgC (stV vs kc) (stV vs a) (stV vs b) = 0
  · have HC := hide (mv_ok (a := (a : Int)) (b := (b : Int)) (me := me) HL.out H1.out H2.out H3.out H4.out (by rw [Int.toNat_natCast, Int.toNat_natCast, HKC.out]; exact q0))
    have HQ := hide q0
    rw [HQ.out]
    clear q0
    go_wp2_with fail
    refine (commit_calls _ _ _ vs a me _ _ _ (mrgR (stV vs kc) (stV vs a) (stV vs b)) _ (h.below x8 (Nat.le_refl _)) F8.out.1.rd hn hs hn8 ha hme).mono ?_
    rintro e w9 ⟨A9, n9, c9, rfl, hF9, hn9, hb9⟩
    have HF := hide hF9
    clear hF9
    go_wp2
    go_ret2
    refine ⟨_, _, _, ret_two rfl (congrArg (Value.int .i64) HC.out.1.symm), ?_, hn9, x8.trans (hb9.mono x8.size)⟩
    rw [HC.out.2, Int.toNat_natCast, Int.toNat_natCast, HKC.out]
    exact HF.out.mono x8.size (Nat.le_refl _)
  · have HC := hide (mv_err (a := (a : Int)) (b := (b : Int)) (me := me) HL.out H1.out H2.out H3.out H4.out (by rw [Int.toNat_natCast, Int.toNat_natCast, HKC.out]; exact q0))
    have e0 : (mrgC (stV vs kc) (stV vs a) (stV vs b) != 0) = true := by simpa using q0
    clear q0
    go_wp2
    go_ret2
    refine ⟨none, 0, 0, ret_two rfl (congrArg (Value.int .i64) ?_), by rw [HC.out.2]; exact FrVz.nil, by omega, x8⟩
    rw [HC.out.1, Int.toNat_natCast, Int.toNat_natCast, HKC.out]

end Go.Proofs.Ytmpfkmbfbeejhaa
