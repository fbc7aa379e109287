/- ValidLog, FirstBroken, SealLog of the program and of the reference; logged. -/
import Derived.Test.YtcclfmapbgdpdaaGreatDoorSealed
namespace Go.Proofs.YtcclfmapbgdpdaaGreatDoor
open Go.RowKit
set_option linter.unusedVariables false

/-- The texts are not long. -/
def MidL (xs : List LineZ) : Prop := ∀ x ∈ xs, x.text.size ≤ 1048576
theorem ret_bool2 {a b c : Bool} (h : c = (a && b)) (h2 : a = true) : Ending.returned (.bool b) = .returned (.bool c) := by rw [h, h2]; rfl

theorem l25Ok_calls (A : Option Addr) (n c : Nat) (xs : List LineZ) (w : World) (h : RdK kLine w A n xs) (hn : n ≤ 1048576) (hx : MidL xs) :
    Calls Tryz.prog 96 #[.slice A n c] w fun e w' => e = .returned (.bool (validL xs)) ∧ Below w.heap.size w w' := by
  have HZ : Hid (validL xs = (isLogB xs && decide (brokenI xs < 0))) := rfl
  have HM := hide (l25Lines_calls A n c xs w h hn hx)
  rcases b_cases (isLogB xs) with hl | hl
  · rw [hl] at HM HZ
    clear hl
    go_enter Tryz.func96, Tryz.ntmps96
    go_wp2_with fail
    refine HM.out.mono ?_
    rintro e w1 ⟨rfl, hb1⟩
    go_wp2
    go_ret
    exact ⟨ret_bool (by rw [HZ.out]; rfl), hb1⟩
  · have HSH := hide (log_short hl)
    rw [hl] at HM HZ
    clear hl
    go_enter Tryz.func96, Tryz.ntmps96
    go_wp2_with fail
    refine HM.out.mono ?_
    rintro e w1 ⟨rfl, hb1⟩
    have HB := hide (l25Broken_calls A n c xs w1 (h.below hb1 (Nat.le_refl _)) hn HSH.out)
    generalize brokenI xs = i at *
    go_wp2_with fail
    refine HB.out.mono ?_
    rintro e w2 ⟨rfl, hb2⟩
    go_wp2
    go_ret
    exact ⟨ret_bool (by rw [HZ.out, Bool.true_and]), hb1.trans (hb2.mono hb1.size)⟩
theorem specValidLog_calls (A : Option Addr) (n c : Nat) (xs : List LineZ) (w : World) (h : RdK kLine w A n xs) (hn : n ≤ 1048576) (hx : MidL xs) :
    Calls Tryz.prog 24 #[.slice A n c] w fun e w' => e = .returned (.bool (validL xs)) ∧ Below w.heap.size w w' := by
  have HM := hide (l25Ok_calls A n c xs w h hn hx)
  go_enter Tryz.func24, Tryz.ntmps24
  go_wp2_with fail
  refine HM.out.mono ?_
  rintro e w1 ⟨rfl, hb1⟩
  go_wp2
  go_ret
  exact ⟨rfl, hb1⟩
theorem implValidLog_calls (A : Option Addr) (n c : Nat) (xs : List LineZ) (w : World) (hT : TabPM w) (h : RdK kLine w A n xs) (hn : n ≤ 1048576) (hx : MidL xs) :
    Calls Tryz.prog 25 #[.slice A n c] w fun e w' => e = .returned (.bool (validL xs)) ∧ Below w.heap.size w w' := by
  have HZ : Hid (validL xs = (isLogB xs && decide (madeZ xs = xs))) := valid_made xs
  have HM := hide (isLog_calls A n c xs w h hn hT.2 hx)
  have HL := hide h.2.1
  have HF := hide h.2.2
  rcases b_cases (isLogB xs) with hl | hl
  · rw [hl] at HM HZ
    clear hl
    go_enter Tryz.func25, Tryz.ntmps25
    go_wp2_with fail
    refine HM.out.mono ?_
    rintro e w1 ⟨rfl, hb1⟩
    go_wp2
    go_ret
    exact ⟨ret_bool (by rw [HZ.out]; rfl), hb1⟩
  · have HSH := hide (log_short hl)
    rw [hl] at HM HZ
    clear hl
    go_enter Tryz.func25, Tryz.ntmps25
    go_wp2_with fail
    refine HM.out.mono ?_
    rintro e w1 ⟨rfl, hb1⟩
    have h1 := h.below hb1 (Nat.le_refl _)
    have HB := hide (sealed_calls A n c xs w1 h1 hn (hT.1.here hb1) HSH.out)
    go_wp2_with fail
    refine HB.out.mono ?_
    rintro e w2 ⟨A2, c2, rfl, hown, hb2⟩
    have h2 := h1.below hb2 (Nat.le_refl _)
    have HE := hide (equalLine_calls A2 A n n c2 c (madeZ xs) xs w2 (RdK.of_own hown ((madeZ_len xs).trans HL.out) (made_fine HF.out)) h2 hn hn)
    go_wp2_with fail
    refine HE.out.mono ?_
    rintro e w3 ⟨rfl, hb3⟩
    have hb12 := hb1.trans (hb2.mono hb1.size)
    go_wp2
    go_ret
    exact ⟨ret_bool (by rw [HZ.out, Bool.true_and]), hb12.trans (hb3.mono hb12.size)⟩

/-- What FirstBroken gives: a number and a code. -/
def firstB (xs : List LineZ) : Int × Int := if isLogB xs = false then (0, 1) else if brokenI xs < 0 then (0, 3) else (brokenI xs, 0)
theorem first_bad {xs : List LineZ} (h : isLogB xs = false) : firstB xs = (0, 1) := by unfold firstB; rw [if_pos h]
theorem first_none {xs : List LineZ} (h : isLogB xs = true) (h2 : brokenI xs < 0) : firstB xs = (0, 3) := by unfold firstB; rw [if_neg (by rw [h]; simp), if_pos h2]
theorem first_some {xs : List LineZ} (h : isLogB xs = true) {i : Int} (h1 : brokenI xs = i) (h2 : 0 ≤ i) : firstB xs = (i, 0) := by unfold firstB; rw [if_neg (by rw [h]; simp), if_neg (by omega), h1]

theorem ret_pairL {a b a' b' : Int} {p : Int × Int} (h : p = (a', b')) (h1 : a = a') (h2 : b = b') : Ending.returned (.tuple #[.int .i64 a, .int .i64 b]) = .returned (.tuple #[.int .i64 p.1, .int .i64 p.2]) := by rw [h, h1, h2]


set_option maxRecDepth 100000 in
set_option maxHeartbeats 4000000 in
theorem implFirstBroken_calls (A : Option Addr) (n c : Nat) (xs : List LineZ) (w : World) (hT : TabPM w) (h : RdK kLine w A n xs) (hn : n ≤ 1048576) (hx : MidL xs) :
    Calls Tryz.prog 27 #[.slice A n c] w fun e w' => e = .returned (.tuple #[.int .i64 (firstB xs).1, .int .i64 (firstB xs).2]) ∧ Below w.heap.size w w' := by
  have HM := hide (isLog_calls A n c xs w h hn hT.2 hx)
  have HL := hide h.2.1
  have HF := hide h.2.2
  rcases b_cases (isLogB xs) with hl | hl
  · have HZ := hide (first_bad hl)
    rw [hl] at HM
    clear hl
    go_enter Tryz.func27, Tryz.ntmps27
    go_wp2_with fail
    refine HM.out.mono ?_
    rintro e w1 ⟨rfl, hb1⟩
    go_wp2
    go_ret2
    exact ⟨ret_pairL HZ.out rfl rfl, hb1⟩
  · have HSH := hide (log_short hl)
    have HN : Hid (brokenI xs < 0 → firstB xs = (0, 3)) := first_none hl
    have HS : Hid (∀ i, brokenI xs = i → 0 ≤ i → firstB xs = (i, 0)) := fun i => first_some hl
    rw [hl] at HM
    clear hl
    go_enter Tryz.func27, Tryz.ntmps27
    go_wp2_with fail
    refine HM.out.mono ?_
    rintro e w1 ⟨rfl, hb1⟩
    have h1 := h.below hb1 (Nat.le_refl _)
    have HB := hide (sealed_calls A n c xs w1 h1 hn (hT.1.here hb1) HSH.out)
    go_wp2_with fail
    refine HB.out.mono ?_
    rintro e w2 ⟨A2, c2, rfl, hown, hb2⟩
    have hb12 := hb1.trans (hb2.mono hb1.size)
    have h2 := h1.below hb2 (Nat.le_refl _)
    have HR : Hid (RdK kLine w2 A2 n (madeZ xs)) := RdK.of_own hown ((madeZ_len xs).trans HL.out) (made_fine HF.out)
    clear hown h1 h
    go_wp2
    go_loopw [12] (fun i wr => ∃ (k : Nat), k ≤ n ∧ i = .int .i64 k ∧ Hid (OkTo xs k) ∧ Below w2.heap.size w2 wr) (fun i _ => n - (intOf i).toNat)
    case atStart => exact ⟨0, Nat.zero_le _, rfl, fun j hj => absurd hj (by omega), Below.refl _ _⟩
    case round =>
      obtain ⟨k, hk, rfl, HC, hb⟩ := hrel
      by_cases hlt : k < n
      · obtain ⟨b, off, p0, p1, p2, p3, rfl, hbl, hx, hc0, hc1, hc2, hc3, _, _, _, _, _, _, _⟩ := (h2.below hb (Nat.le_refl _)).atLine hlt
        obtain ⟨b', off', f0, f1, f2, f3, rfl, hbl', hy, hd0, hd1, hd2, hd3, _, _, _, _, _, _, _⟩ := (HR.out.below hb (Nat.le_refl _)).atLine hlt
        have hm := made_at hx.out
        rw [hy.out] at hm
        simp only [Option.some.injEq, LineZ.mk.injEq] at hm
        obtain ⟨rfl, rfl, rfl, h3⟩ := hm
        have HK : Hid (okAt xs k = decide (f3 = p3)) := by unfold Hid; rw [okAt_at hx.out, h3]
        clear h3
        obtain ⟨g2, g2'⟩ := str_eq (rfl : f2 = f2)
        have g0 : (f0 == f0) = true := by simp
        have g1 : (f1 == f1) = true := by simp
        have hb3 := hb.alloc (Nat.le_of_lt (Nat.lt_of_lt_of_le hbl (Nat.le_refl _))|> fun _ => hb.size) (.cells #[.int .i64 f0, .int .i64 f1, .string f2, .int .i64 f3] 48)
        by_cases hq : f3 = p3
        · have HO : Hid (OkTo xs (k + 1)) := upto_snocL HC.out (by rw [HK.out]; simpa using hq)
          have g3 : (p3 == f3) = true := by simpa using hq.symm
          clear hq
          go_wp2
          go_quiet (fail)
          go_wp2
          go_roundw
          case rel => exact ⟨k + 1, by omega, by go_num, HO, below_drewN hb3 _⟩
          case measure => simp [intOf]; omega
        · have HBR := hide (HS.out k (broken_here HC.out (by have := HL.out; omega) (by rw [HK.out]; simpa using hq)) (by omega))
          have g3 : (p3 == f3) = false := by simpa using fun e => hq e.symm
          clear hq
          go_wp2
          go_quiet (fail)
          go_wp2
          go_ret2
          exact ⟨ret_pairL HBR.out rfl rfl, below_drewN (hb12.trans (hb3.mono hb12.size)) _⟩
      · have hkn : k = n := by omega
        subst hkn
        have HR2 := hide (HN.out (by rw [broken_none HL.out HC.out]; omega))
        go_wp2
        go_ret2
        exact ⟨ret_pairL HR2.out rfl rfl, hb12.trans (hb.mono hb12.size)⟩

/-- What a function gives that returns lines and a code. -/
def LinPost (V : List LineZ) (C : Int) (w : World) (e : Ending) (w' : World) : Prop :=
  ∃ A' n' c', e = .returned (.tuple #[.slice A' n' c', .int .i64 C]) ∧ FrK kLine w' w.heap.size w'.heap.size 48 A' n' V ∧ n' ≤ 1048576 ∧ Below w.heap.size w w'
def sealV (xs : List LineZ) : List LineZ := if isLogB xs then madeZ xs else []
def sealC (xs : List LineZ) : Int := if isLogB xs then 0 else 1
theorem lin_none {w w' : World} {V : List LineZ} {C d : Int} {c : Nat} (hV : V = []) (hC : C = d) (hb : Below w.heap.size w w') : LinPost V C w (.returned (.tuple #[.slice none 0 c, .int .i64 d])) w' := by
  subst hV hC
  exact ⟨none, 0, c, rfl, FrK.nil, by omega, hb⟩

theorem implSealLog_calls (A : Option Addr) (n c : Nat) (xs : List LineZ) (w : World) (hT : TabPM w) (h : RdK kLine w A n xs) (hn : n ≤ 1048576) (hx : MidL xs) :
    Calls Tryz.prog 28 #[.slice A n c] w (LinPost (sealV xs) (sealC xs) w) := by
  have HV : Hid (sealV xs = if isLogB xs then madeZ xs else []) := rfl
  have HC : Hid (sealC xs = if isLogB xs then 0 else 1) := rfl
  have HM := hide (isLog_calls A n c xs w h hn hT.2 hx)
  have HL := hide h.2.1
  have HF := hide h.2.2
  rcases b_cases (isLogB xs) with hl | hl
  · rw [hl] at HM HV HC
    clear hl
    go_enter Tryz.func28, Tryz.ntmps28
    go_wp2_with fail
    refine HM.out.mono ?_
    rintro e w1 ⟨rfl, hb1⟩
    go_wp2
    go_ret2
    exact lin_none HV.out HC.out hb1
  · have HSH := hide (log_short hl)
    rw [hl] at HM HV HC
    clear hl
    go_enter Tryz.func28, Tryz.ntmps28
    go_wp2_with fail
    refine HM.out.mono ?_
    rintro e w1 ⟨rfl, hb1⟩
    have HB := hide (sealed_calls A n c xs w1 (h.below hb1 (Nat.le_refl _)) hn (hT.1.here hb1) HSH.out)
    go_wp2_with fail
    refine HB.out.mono ?_
    rintro e w2 ⟨A2, c2, rfl, hown, hb2⟩
    have HR : Hid (FrK kLine w2 w.heap.size w2.heap.size 48 A2 n (madeZ xs)) := (FrK.of_own (K := kLine) hown ((madeZ_len xs).trans HL.out) (made_fine HF.out)).mono hb1.size (Nat.le_refl _)
    clear hown
    go_wp2
    go_ret2
    exact ⟨A2, n, c2, by rw [HC.out]; rfl, by rw [HV.out]; exact HR.out, hn, hb1.trans (hb2.mono hb1.size)⟩

/-- The first error of a log, of something about numbers, and of texts. -/
def loggedZ (xs : List LineZ) (fine formed : Bool) : Int := if validL xs = false then 1 else if fine = false then 2 else if formed = false then 9 else 0
theorem logged_calls (A : Option Addr) (n c : Nat) (xs : List LineZ) (p q : Bool) (w : World) (hT : TabPM w) (h : RdK kLine w A n xs) (hn : n ≤ 1048576) (hx : MidL xs) :
    Calls Tryz.prog 89 #[.slice A n c, .bool p, .bool q] w fun e w' => e = .returned (.int .i64 (loggedZ xs p q)) ∧ Below w.heap.size w w' := by
  have HM := hide (implValidLog_calls A n c xs w hT h hn hx)
  have HZ : Hid (loggedZ xs p q = if validL xs = false then 1 else if p = false then 2 else if q = false then 9 else 0) := rfl
  rcases b_cases (validL xs) with hl | hl
  · rw [hl] at HM HZ
    clear hl
    go_enter Tryz.func89, Tryz.ntmps89
    go_wp2_with fail
    refine HM.out.mono ?_
    rintro e w1 ⟨rfl, hb1⟩
    go_wp2
    go_ret
    exact ⟨ret_int (by rw [HZ.out]; rfl), hb1⟩
  · rw [hl] at HM HZ
    clear hl
    cases p <;> cases q
    all_goals
      go_enter Tryz.func89, Tryz.ntmps89
      go_wp2_with fail
      refine HM.out.mono ?_
      rintro e w1 ⟨rfl, hb1⟩
      go_wp2
      go_ret
      exact ⟨ret_int (by rw [HZ.out]; rfl), hb1⟩

end Go.Proofs.YtcclfmapbgdpdaaGreatDoor
