/- CommitState of the program and of the reference. -/
import Derived.Test.YtmpfkmbfbeejhaaDoorAddV
import Derived.Test.YtmpfkmbfbeejhaaDoorCommon
namespace Go.Proofs.YtmpfkmbfbeejhaaDoor
open Go.RowKit
set_option linter.unusedVariables false

def csC (vs : List VerZ) (pa : Int) (me : ByteArray) (st : List SetZ) : Int := if histB vs && memoB me && stateB st then (if withinB pa 0 vs.length then addC vs else 3) else 1
def csR (vs : List VerZ) (pa : Int) (me : ByteArray) (st : List SetZ) : List VerZ := if histB vs && memoB me && stateB st then (if withinB pa 0 vs.length then addR vs pa me st else []) else []
def CsPost (vs : List VerZ) (pa : Int) (me : ByteArray) (st : List SetZ) (w : World) (e : Ending) (w' : World) : Prop :=
  ∃ A' n' c', e = .returned (.tuple #[.slice A' n' c', .int .i64 (csC vs pa me st)]) ∧ FrVz w' w.heap.size w'.heap.size A' n' (csR vs pa me st) ∧ n' ≤ 1048576 ∧ Below w.heap.size w w'

theorem cs_bad {vs : List VerZ} {pa : Int} {me : ByteArray} {st : List SetZ} (h : (histB vs && memoB me && stateB st) = false) : csC vs pa me st = 1 ∧ csR vs pa me st = [] := by unfold csC csR; rw [h]; exact ⟨rfl, rfl⟩
theorem cs_off {vs : List VerZ} {pa : Int} {me : ByteArray} {st : List SetZ} {n : Nat} (hl : vs.length = n) (h1 : histB vs = true) (h2 : memoB me = true) (h3 : stateB st = true) (h : withinB pa 0 n = false) : csC vs pa me st = 3 ∧ csR vs pa me st = [] := by unfold csC csR; rw [h1, h2, h3, hl, h]; exact ⟨rfl, rfl⟩
theorem cs_ok {vs : List VerZ} {pa : Int} {me : ByteArray} {st : List SetZ} {n : Nat} (hl : vs.length = n) (h1 : histB vs = true) (h2 : memoB me = true) (h3 : stateB st = true) (h : withinB pa 0 n = true) : csC vs pa me st = addC vs ∧ csR vs pa me st = addR vs pa me st := by unfold csC csR; rw [h1, h2, h3, hl, h]; exact ⟨rfl, rfl⟩
theorem csR_short {vs : List VerZ} {pa : Int} {me : ByteArray} {st : List SetZ} (h : Short vs) (h3 : st.length ≤ 1048576) : Short (csR vs pa me st) := by
  unfold csR addR
  intro v hv
  split at hv
  · split at hv
    · split at hv
      · simp at hv
      · rcases List.mem_append.1 hv with hv | hv
        · exact h v hv
        · simp at hv; subst hv; exact h3
    · simp at hv
  · simp at hv
theorem CsPost.none {vs : List VerZ} {pa : Int} {me : ByteArray} {st : List SetZ} {w w' : World} {z : Int} (h : csC vs pa me st = z ∧ csR vs pa me st = []) (hb : Below w.heap.size w w') : CsPost vs pa me st w (.returned (.tuple #[.slice none 0 0, .int .i64 z])) w' :=
  ⟨Option.none, 0, 0, ret_two rfl (congrArg (Value.int .i64) h.1.symm), by rw [h.2]; exact FrVz.nil, by omega, hb⟩
theorem within0_split {pa : Int} {n : Nat} : withinB pa 0 n = (decide (pa = 0) || withinB pa 1 n) := by
  rw [Bool.eq_iff_iff, withinB_iff, Bool.or_eq_true, withinB_iff, decide_eq_true_iff]
  omega
theorem histR_q (A : Option Addr) (n c : Nat) (vs : List VerZ) (q : Bool) (w : World) (h : RdVz w A n vs) (hn : n ≤ 1048576) (hs : Short vs) (hq : histB vs = q) :
    Calls Tryd.prog 45 #[.slice A n c] w fun e w' => e = .returned (.bool q) ∧ Below w.heap.size w w' := hq ▸ l27Ok_calls A n c vs w h hn hs
theorem histI_q (A : Option Addr) (n c : Nat) (vs : List VerZ) (q : Bool) (w : World) (h : RdVz w A n vs) (hn : n ≤ 1048576) (hs : Short vs) (hq : histB vs = q) :
    Calls Tryd.prog 34 #[.slice A n c] w fun e w' => e = .returned (.bool q) ∧ Below w.heap.size w w' := hq ▸ implValidHistory_calls A n c vs w h hn hs
theorem memoR_q (s : ByteArray) (q : Bool) (w : World) (hs : s.size ≤ 9223372036854775807) (h : memoB s = q) : Calls Tryd.prog 69 #[.string s] w fun e w' => e = .returned (.bool q) ∧ Below w.heap.size w w' := (l27Memo_q s q w hs h).mono fun _ _ ⟨h1, h2⟩ => ⟨h1, h2 ▸ Below.refl _ _⟩
theorem stateR_q (A : Option Addr) (n c : Nat) (ss : List SetZ) (q : Bool) (w : World) (h : RdS w A n ss) (hn : n ≤ 1048576) (hq : stateB ss = q) :
    Calls Tryd.prog 70 #[.slice A n c] w fun e w' => e = .returned (.bool q) ∧ Below w.heap.size w w' := (l27State_q A n c ss w h hn q hq).mono fun _ _ ⟨h1, h2⟩ => ⟨h1, below_of_draws h2⟩
theorem stateI_q (A : Option Addr) (n c : Nat) (ss : List SetZ) (q : Bool) (w : World) (h : RdS w A n ss) (hn : n ≤ 1048576) (hq : stateB ss = q) :
    Calls Tryd.prog 26 #[.slice A n c] w fun e w' => e = .returned (.bool q) ∧ Below w.heap.size w w' := implValidState_q A n c ss w h hn q hq

set_option maxHeartbeats 4000000 in
theorem implCommitState_calls (A : Option Addr) (n c : Nat) (vs : List VerZ) (pa : Int) (me : ByteArray) (A3 : Option Addr) (n3 c3 : Nat) (st : List SetZ) (w : World) (h : RdVz w A n vs) (hpa : I64 pa) (hme : me.size ≤ 9223372036854775807) (h3 : RdS w A3 n3 st) (hn : n ≤ 1048576) (hmq : me.size ≤ 1048576) (hn3 : n3 ≤ 1048576) (hs : Short vs) :
    Calls Tryd.prog 12 #[.slice A n c, .int .i64 pa, .string me, .slice A3 n3 c3] w (CsPost vs pa me st w) := by
  have HL := hide h.len
  rcases b_cases (histB vs) with q1 | q1
  · have HC := hide (cs_bad (vs := vs) (pa := pa) (me := me) (st := st) (by rw [q1]; rfl))
    have H1 := hide q1
    clear q1
    go_enter Tryd.func12, Tryd.ntmps12
    go_wp2_with fail
    refine (histI_q _ _ _ vs _ _ h hn hs H1.out).mono ?_
    rintro e w1 ⟨rfl, hb1⟩
    go_wp2
    go_ret2
    exact CsPost.none HC.out hb1
  rcases b_cases (memoB me) with q2 | q2
  · have HC := hide (cs_bad (vs := vs) (pa := pa) (me := me) (st := st) (by rw [q1, q2]; rfl))
    have H1 := hide q1
    have H2 := hide q2
    clear q1 q2
    go_enter Tryd.func12, Tryd.ntmps12
    go_wp2_with fail
    refine (histI_q _ _ _ vs _ _ h hn hs H1.out).mono ?_
    rintro e w1 ⟨rfl, hb1⟩
    go_wp2_with fail
    refine (validMemo_q _ _ _ hme H2.out).mono ?_
    rintro e w2 ⟨rfl, hb2⟩
    have hx2 := hb1.trans (hb2.mono hb1.size)
    go_wp2
    go_ret2
    exact CsPost.none HC.out hx2
  rcases b_cases (stateB st) with q3 | q3
  · have HC := hide (cs_bad (vs := vs) (pa := pa) (me := me) (st := st) (by rw [q1, q2, q3]; rfl))
    have H1 := hide q1
    have H2 := hide q2
    have H3 := hide q3
    clear q1 q2 q3
    go_enter Tryd.func12, Tryd.ntmps12
    go_wp2_with fail
    refine (histI_q _ _ _ vs _ _ h hn hs H1.out).mono ?_
    rintro e w1 ⟨rfl, hb1⟩
    go_wp2_with fail
    refine (validMemo_q _ _ _ hme H2.out).mono ?_
    rintro e w2 ⟨rfl, hb2⟩
    have hx2 := hb1.trans (hb2.mono hb1.size)
    go_wp2_with fail
    refine (stateI_q _ _ _ st _ _ (h3.below hx2 (Nat.le_refl _)) hn3 H3.out).mono ?_
    rintro e w3 ⟨rfl, hb3⟩
    have hx3 := hx2.trans (hb3.mono hx2.size)
    go_wp2
    go_ret2
    exact CsPost.none HC.out hx3
  have H1 := hide q1
  have H2 := hide q2
  have H3 := hide q3
  have h32 := hist_len q1
  rw [HL.out] at h32
  rcases b_cases (withinB pa 0 n) with q4 | q4
  · have HC := hide (cs_off HL.out q1 q2 q3 q4)
    have H4 := hide q4
    clear q1 q2 q3 q4
    go_enter Tryd.func12, Tryd.ntmps12
    go_wp2_with fail
    refine (histI_q _ _ _ vs _ _ h hn hs H1.out).mono ?_
    rintro e w1 ⟨rfl, hb1⟩
    go_wp2_with fail
    refine (validMemo_q _ _ _ hme H2.out).mono ?_
    rintro e w2 ⟨rfl, hb2⟩
    have hx2 := hb1.trans (hb2.mono hb1.size)
    go_wp2_with fail
    refine (stateI_q _ _ _ st _ _ (h3.below hx2 (Nat.le_refl _)) hn3 H3.out).mono ?_
    rintro e w3 ⟨rfl, hb3⟩
    have hx3 := hx2.trans (hb3.mono hx2.size)
    go_wp2_with fail
    refine (sizeV_calls _ _ _ _ hn).mono ?_
    rintro e w4 ⟨rfl, rfl⟩
    go_wp2_with fail
    refine (within_q _ _ _ _ _ H4.out).mono ?_
    rintro e w4 ⟨rfl, rfl⟩
    go_wp2
    go_ret2
    exact CsPost.none HC.out hx3
  · have HC := hide (cs_ok HL.out q1 q2 q3 q4)
    have H4 := hide q4
    clear q1 q2 q3 q4
    go_enter Tryd.func12, Tryd.ntmps12
    go_wp2_with fail
    refine (histI_q _ _ _ vs _ _ h hn hs H1.out).mono ?_
    rintro e w1 ⟨rfl, hb1⟩
    go_wp2_with fail
    refine (validMemo_q _ _ _ hme H2.out).mono ?_
    rintro e w2 ⟨rfl, hb2⟩
    have hx2 := hb1.trans (hb2.mono hb1.size)
    go_wp2_with fail
    refine (stateI_q _ _ _ st _ _ (h3.below hx2 (Nat.le_refl _)) hn3 H3.out).mono ?_
    rintro e w3 ⟨rfl, hb3⟩
    have hx3 := hx2.trans (hb3.mono hx2.size)
    go_wp2_with fail
    refine (sizeV_calls _ _ _ _ hn).mono ?_
    rintro e w4 ⟨rfl, rfl⟩
    go_wp2_with fail
    refine (within_q _ _ _ _ _ H4.out).mono ?_
    rintro e w4 ⟨rfl, rfl⟩
    go_wp2_with fail
    refine (commit_calls _ _ _ vs pa me _ _ _ st _ (h.below hx3 (Nat.le_refl _)) (h3.below hx3 (Nat.le_refl _)) hn hs hn3 hpa hme).mono ?_
    rintro e w5 ⟨A5, n5, c5, rfl, hF, hn5, hb5⟩
    have HF := hide hF
    clear hF
    go_wp2
    go_ret2
    exact ⟨_, _, _, ret_two rfl (congrArg (Value.int .i64) HC.out.1.symm), by rw [HC.out.2]; exact HF.out.mono hx3.size (Nat.le_refl _), hn5, hx3.trans (hb5.mono hx3.size)⟩
end Go.Proofs.YtmpfkmbfbeejhaaDoor
