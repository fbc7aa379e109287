/- ValidLog, FirstBroken, SealLog of the program and of the reference; logged. -/
import Derived.Test.YtlomloepdnojoaaGreatDoorSealed
namespace Go.Proofs.YtlomloepdnojoaaGreatDoor
open Go.RowKit
set_option linter.unusedVariables false

/-- The texts are not long. -/
def MidL (xs : List LineZ) : Prop := ∀ x ∈ xs, x.text.size ≤ 1048576
theorem ret_bool2 {a b c : Bool} (h : c = (a && b)) (h2 : a = true) : Ending.returned (.bool b) = .returned (.bool c) := by rw [h, h2]; rfl

theorem l25Ok_calls (A : Option Addr) (n c : Nat) (xs : List LineZ) (w : World) (h : RdK kLine w A n xs) (hn : n ≤ 1048576) (hx : MidL xs) :
    Calls Tryz.prog 30 #[.slice A n c] w fun e w' => e = .returned (.bool (validL xs)) ∧ Below w.heap.size w w' := by
  have HZ : Hid (validL xs = (isLogB xs && decide (brokenI xs < 0))) := rfl
  have HM := hide (l25Lines_calls A n c xs w h hn hx)
  rcases b_cases (isLogB xs) with hl | hl
  · rw [hl] at HM HZ
    clear hl
    go_enter Tryz.func30, Tryz.ntmps30
    go_wp2_with fail
    refine HM.out.mono ?_
    rintro e w1 ⟨rfl, hb1⟩
    go_wp2
    go_ret
    exact ⟨ret_bool (by rw [HZ.out]; rfl), hb1⟩
  · have HSH := hide (log_short hl)
    rw [hl] at HM HZ
    clear hl
    go_enter Tryz.func30, Tryz.ntmps30
    go_wp2_with fail
    refine HM.out.mono ?_
    rintro e w1 ⟨rfl, hb1⟩
    have HB := hide (l25Broken_calls A n c xs w1 (h.below hb1 (Nat.le_refl _)) hn HSH.out)
    generalize brokenI xs = i at *
    go_wp2_with fail
    refine HB.out.mono ?_
    rintro e w2 ⟨rfl, hb2⟩
    go_wp2
    go_ret
    exact ⟨ret_bool (by rw [HZ.out, Bool.true_and]), hb1.trans (hb2.mono hb1.size)⟩
theorem implValidLog_calls (A : Option Addr) (n c : Nat) (xs : List LineZ) (w : World) (hT : TabPM w) (h : RdK kLine w A n xs) (hn : n ≤ 1048576) (hx : MidL xs) :
    Calls Tryz.prog 33 #[.slice A n c] w fun e w' => e = .returned (.bool (validL xs)) ∧ Below w.heap.size w w' := by
  have HZ : Hid (validL xs = (isLogB xs && decide (madeZ xs = xs))) := valid_made xs
  have HM := hide (isLog_calls A n c xs w h hn hT.2 hx)
  have HL := hide h.2.1
  have HF := hide h.2.2
  rcases b_cases (isLogB xs) with hl | hl
  · rw [hl] at HM HZ
    clear hl
    go_enter Tryz.func33, Tryz.ntmps33
    go_wp2_with fail
    refine HM.out.mono ?_
    rintro e w1 ⟨rfl, hb1⟩
    go_wp2
    go_ret
    exact ⟨ret_bool (by rw [HZ.out]; rfl), hb1⟩
  · have HSH := hide (log_short hl)
    rw [hl] at HM HZ
    clear hl
    go_enter Tryz.func33, Tryz.ntmps33
    go_wp2_with fail
    refine HM.out.mono ?_
    rintro e w1 ⟨rfl, hb1⟩
    have h1 := h.below hb1 (Nat.le_refl _)
    have HB := hide (sealed_calls A n c xs w1 h1 hn (hT.1.here hb1) HSH.out)
    go_wp2_with fail
    refine HB.out.mono ?_
    rintro e w2 ⟨A2, c2, rfl, hown, hb2⟩
    have h2 := h1.below hb2 (Nat.le_refl _)
    have HE := hide (equalLine_calls A2 A n n c2 c (madeZ xs) xs w2 (RdK.of_own hown ((madeZ_len xs).trans HL.out) (made_fine HF.out)) h2 hn hn)
    go_wp2_with fail
    refine HE.out.mono ?_
    rintro e w3 ⟨rfl, hb3⟩
    have hb12 := hb1.trans (hb2.mono hb1.size)
    go_wp2
    go_ret
    exact ⟨ret_bool (by rw [HZ.out, Bool.true_and]), hb12.trans (hb3.mono hb12.size)⟩

/-- What FirstBroken gives: a number and a code. -/
def firstB (xs : List LineZ) : Int × Int := if isLogB xs = false then (0, 1) else if brokenI xs < 0 then (0, 3) else (brokenI xs, 0)
theorem first_bad {xs : List LineZ} (h : isLogB xs = false) : firstB xs = (0, 1) := by unfold firstB; rw [if_pos h]
theorem first_none {xs : List LineZ} (h : isLogB xs = true) (h2 : brokenI xs < 0) : firstB xs = (0, 3) := by unfold firstB; rw [if_neg (by rw [h]; simp), if_pos h2]
theorem first_some {xs : List LineZ} (h : isLogB xs = true) {i : Int} (h1 : brokenI xs = i) (h2 : 0 ≤ i) : firstB xs = (i, 0) := by unfold firstB; rw [if_neg (by rw [h]; simp), if_neg (by omega), h1]

theorem ret_pairL {a b a' b' : Int} {p : Int × Int} (h : p = (a', b')) (h1 : a = a') (h2 : b = b') : Ending.returned (.tuple #[.int .i64 a, .int .i64 b]) = .returned (.tuple #[.int .i64 p.1, .int .i64 p.2]) := by rw [h, h1, h2]



/-- What a function gives that returns lines and a code. -/
def LinPost (V : List LineZ) (C : Int) (w : World) (e : Ending) (w' : World) : Prop :=
  ∃ A' n' c', e = .returned (.tuple #[.slice A' n' c', .int .i64 C]) ∧ FrK kLine w' w.heap.size w'.heap.size 57 A' n' V ∧ n' ≤ 1048576 ∧ Below w.heap.size w w'
def sealV (xs : List LineZ) : List LineZ := if isLogB xs then madeZ xs else []
def sealC (xs : List LineZ) : Int := if isLogB xs then 0 else 1
theorem lin_none {w w' : World} {V : List LineZ} {C d : Int} {c : Nat} (hV : V = []) (hC : C = d) (hb : Below w.heap.size w w') : LinPost V C w (.returned (.tuple #[.slice none 0 c, .int .i64 d])) w' := by
  subst hV hC
  exact ⟨none, 0, c, rfl, FrK.nil, by omega, hb⟩



end Go.Proofs.YtlomloepdnojoaaGreatDoor
