/- CommitState of the program and of the reference. -/
import Derived.Test.YtmpfkmbfbeejhaaAddV
import Derived.Test.YtmpfkmbfbeejhaaCommon
namespace Go.Proofs.Ytmpfkmbfbeejhaa
open Go.RowKit
set_option linter.unusedVariables false

def csC (vs : List VerZ) (pa : Int) (me : ByteArray) (st : List SetZ) : Int := if histB vs && memoB me && stateB st then (if withinB pa 0 vs.length then addC vs else 3) else 1
def csR (vs : List VerZ) (pa : Int) (me : ByteArray) (st : List SetZ) : List VerZ := if histB vs && memoB me && stateB st then (if withinB pa 0 vs.length then addR vs pa me st else []) else []
def CsPost (vs : List VerZ) (pa : Int) (me : ByteArray) (st : List SetZ) (w : World) (e : Ending) (w' : World) : Prop :=
  ∃ A' n' c', e = .returned (.tuple #[.slice A' n' c', .int .i64 (csC vs pa me st)]) ∧ FrVz w' w.heap.size w'.heap.size A' n' (csR vs pa me st) ∧ n' ≤ 1048576 ∧ Below w.heap.size w w'

theorem cs_bad {vs : List VerZ} {pa : Int} {me : ByteArray} {st : List SetZ} (h : (histB vs && memoB me && stateB st) = false) : csC vs pa me st = 1 ∧ csR vs pa me st = [] := by unfold csC csR; rw [h]; exact ⟨rfl, rfl⟩
theorem cs_off {vs : List VerZ} {pa : Int} {me : ByteArray} {st : List SetZ} {n : Nat} (hl : vs.length = n) (h1 : histB vs = true) (h2 : memoB me = true) (h3 : stateB st = true) (h : withinB pa 0 n = false) : csC vs pa me st = 3 ∧ csR vs pa me st = [] := by unfold csC csR; rw [h1, h2, h3, hl, h]; exact ⟨rfl, rfl⟩
theorem cs_ok {vs : List VerZ} {pa : Int} {me : ByteArray} {st : List SetZ} {n : Nat} (hl : vs.length = n) (h1 : histB vs = true) (h2 : memoB me = true) (h3 : stateB st = true) (h : withinB pa 0 n = true) : csC vs pa me st = addC vs ∧ csR vs pa me st = addR vs pa me st := by unfold csC csR; rw [h1, h2, h3, hl, h]; exact ⟨rfl, rfl⟩
theorem csR_short {vs : List VerZ} {pa : Int} {me : ByteArray} {st : List SetZ} (h : Short vs) (h3 : st.length ≤ 1048576) : Short (csR vs pa me st) := by
  unfold csR addR
  intro v hv
  split at hv
  · split at hv
    · split at hv
      · simp at hv
      · rcases List.mem_append.1 hv with hv | hv
        · exact h v hv
        · simp at hv; subst hv; exact h3
    · simp at hv
  · simp at hv
theorem CsPost.none {vs : List VerZ} {pa : Int} {me : ByteArray} {st : List SetZ} {w w' : World} {z : Int} (h : csC vs pa me st = z ∧ csR vs pa me st = []) (hb : Below w.heap.size w w') : CsPost vs pa me st w (.returned (.tuple #[.slice none 0 0, .int .i64 z])) w' :=
  ⟨Option.none, 0, 0, ret_two rfl (congrArg (Value.int .i64) h.1.symm), by rw [h.2]; exact FrVz.nil, by omega, hb⟩
theorem within0_split {pa : Int} {n : Nat} : withinB pa 0 n = (decide (pa = 0) || withinB pa 1 n) := by
  rw [Bool.eq_iff_iff, withinB_iff, Bool.or_eq_true, withinB_iff, decide_eq_true_iff]
  omega
theorem histR_q (A : Option Addr) (n c : Nat) (vs : List VerZ) (q : Bool) (w : World) (h : RdVz w A n vs) (hn : n ≤ 1048576) (hs : Short vs) (hq : histB vs = q) :
    Calls Try.prog 73 #[.slice A n c] w fun e w' => e = .returned (.bool q) ∧ Below w.heap.size w w' := hq ▸ l27Ok_calls A n c vs w h hn hs
theorem histI_q (A : Option Addr) (n c : Nat) (vs : List VerZ) (q : Bool) (w : World) (h : RdVz w A n vs) (hn : n ≤ 1048576) (hs : Short vs) (hq : histB vs = q) :
    Calls Try.prog 95 #[.slice A n c] w fun e w' => e = .returned (.bool q) ∧ Below w.heap.size w w' := hq ▸ implValidHistory_calls A n c vs w h hn hs
theorem memoR_q (s : ByteArray) (q : Bool) (w : World) (hs : s.size ≤ 9223372036854775807) (h : memoB s = q) : Calls Try.prog 103 #[.string s] w fun e w' => e = .returned (.bool q) ∧ Below w.heap.size w w' := (l27Memo_q s q w hs h).mono fun _ _ ⟨h1, h2⟩ => ⟨h1, h2 ▸ Below.refl _ _⟩
theorem stateR_q (A : Option Addr) (n c : Nat) (ss : List SetZ) (q : Bool) (w : World) (h : RdS w A n ss) (hn : n ≤ 1048576) (hq : stateB ss = q) :
    Calls Try.prog 66 #[.slice A n c] w fun e w' => e = .returned (.bool q) ∧ Below w.heap.size w w' := (l27State_q A n c ss w h hn q hq).mono fun _ _ ⟨h1, h2⟩ => ⟨h1, below_of_draws h2⟩
theorem stateI_q (A : Option Addr) (n c : Nat) (ss : List SetZ) (q : Bool) (w : World) (h : RdS w A n ss) (hn : n ≤ 1048576) (hq : stateB ss = q) :
    Calls Try.prog 88 #[.slice A n c] w fun e w' => e = .returned (.bool q) ∧ Below w.heap.size w w' := implValidState_q A n c ss w h hn q hq

end Go.Proofs.Ytmpfkmbfbeejhaa
