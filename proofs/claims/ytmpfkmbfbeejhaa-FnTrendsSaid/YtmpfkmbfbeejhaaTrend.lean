/- TrendOf of the program and of the reference. -/
import Derived.Test.YtmpfkmbfbeejhaaMean
import Derived.Test.YtmpfkmbfbeejhaaPlainSer
namespace Go.Proofs.Ytmpfkmbfbeejhaa
open Go.RowKit
set_option linter.unusedVariables false

/-- The slope's two numbers; the slope; the beginning. -/
def tNum (xs : List Int) : Int := (xs.length : Int) * tXY xs xs.length - tX xs.length * sumZ xs
def tDen (n : Nat) : Int := (n : Int) * tXX n - tX n * tX n
def tSlope (xs : List Int) : Int := nearZ (1000 * tNum xs) (tDen xs.length)
def tStart (xs : List Int) : Int := nearZ (1000 * sumZ xs - tSlope xs * tX xs.length) (1000 * xs.length)
def trC (xs : List Int) : Int := if okSer xs then (if xs.length = 1 then 6 else 0) else 1
def trA (xs : List Int) : Int := if trC xs = 0 then tSlope xs else 0
def trB (xs : List Int) : Int := if trC xs = 0 then tStart xs else 0
def trT (xs : List Int) : Value := .tuple #[.int .i64 (trA xs), .int .i64 (trB xs), .int .i64 (trC xs)]
theorem trT_bad {xs : List Int} (h : okSer xs = false) : trT xs = .tuple #[.int .i64 0, .int .i64 0, .int .i64 1] := by simp [trT, trA, trB, trC, h]
theorem trT_one {xs : List Int} (h : okSer xs = true) (hl : xs.length = 1) : trT xs = .tuple #[.int .i64 0, .int .i64 0, .int .i64 6] := by simp [trT, trA, trB, trC, h, hl]
theorem trT_ok {xs : List Int} (h : okSer xs = true) (hl : xs.length ≠ 1) : trT xs = .tuple #[.int .i64 (tSlope xs), .int .i64 (tStart xs), .int .i64 0] := by simp [trT, trA, trB, trC, h, hl]

/-- The bounds that the walk wants, of the numbers behind the loop. -/
theorem trend_bds {xs : List Int} {n : Nat} (hok : okSer xs = true) (hl : xs.length = n) (h2 : 2 ≤ n) :
    (0 ≤ tX n ∧ tX n ≤ 3600) ∧ (0 ≤ sumZ xs ∧ sumZ xs ≤ 60000000) ∧ (0 ≤ (n : Int) * tXY xs n ∧ (n : Int) * tXY xs n ≤ 216000000000) ∧ (0 ≤ tX n * sumZ xs ∧ tX n * sumZ xs ≤ 216000000000) ∧
    (0 ≤ (n : Int) * tXX n ∧ (n : Int) * tXX n ≤ 13000000) ∧ (0 ≤ tX n * tX n ∧ tX n * tX n ≤ 13000000) ∧ (0 < (n : Int) * tXX n - tX n * tX n) := by
  have hn : n ≤ 60 := by have := (ok_len hok).2; omega
  have hall : ∀ x ∈ xs, 0 ≤ x ∧ x ≤ 1000000 := by
    intro x hx
    simp only [okSer, Bool.and_eq_true, List.all_eq_true] at hok
    exact withinB_iff.1 (hok.2 x hx)
  have a1 := tX_bd n hn
  have a2 := okSer_sum hok
  have a3 := tXY_bd xs hall n hn (by omega)
  have a4 := tD_le n hn
  have a5 := tD_pos n hn h2
  have b1 : (n : Int) * tXY xs n ≤ 60 * 3600000000 := Int.mul_le_mul (by omega) (by omega) (by omega) (by omega)
  have b2 : 0 ≤ (n : Int) * tXY xs n := Int.mul_nonneg (by omega) (by omega)
  have b3 : tX n * sumZ xs ≤ 3600 * 60000000 := Int.mul_le_mul (by omega) (by omega) (by omega) (by omega)
  have b4 : 0 ≤ tX n * sumZ xs := Int.mul_nonneg (by omega) (by omega)
  refine ⟨by omega, a2, by omega, by omega, by omega, by omega, a5⟩
theorem slope_bds {xs : List Int} {n : Nat} (hok : okSer xs = true) (hl : xs.length = n) (h2 : 2 ≤ n) :
    (-432000000000000 ≤ tSlope xs ∧ tSlope xs ≤ 432000000000000) ∧ (-1555200000000000000 ≤ tSlope xs * tX n ∧ tSlope xs * tX n ≤ 1555200000000000000) := by
  obtain ⟨⟨a1, a2⟩, ⟨b1, b2⟩, ⟨c1, c2⟩, ⟨d1, d2⟩, ⟨e1, e2⟩, ⟨f1, f2⟩, g⟩ := trend_bds hok hl h2
  have hs : -432000000000000 ≤ tSlope xs ∧ tSlope xs ≤ 432000000000000 := by
    unfold tSlope tNum tDen
    rw [hl]
    have hm : (432000000000000 : Int) * 1 ≤ 432000000000000 * ((n : Int) * tXX n - tX n * tX n) := Int.mul_le_mul (by omega) (by omega) (by omega) (by omega)
    exact nearZ_bd _ _ _ g (by omega) (by omega)
  refine ⟨hs, ?_⟩
  generalize tSlope xs = s at *
  generalize tX n = x at *
  have p1 := Int.mul_nonneg (a := s + 432000000000000) (b := x) (by omega) (by omega)
  have p2 := Int.mul_nonneg (a := 432000000000000 - s) (b := x) (by omega) (by omega)
  simp only [Int.add_mul, Int.sub_mul] at p1 p2
  omega

theorem tX_succ (k : Nat) : tX (k + 1) = tX k + k := rfl
theorem tXX_succ (k : Nat) : tXX (k + 1) = tXX k + k * k := rfl
theorem tXY_succ {xs : List Int} {k : Nat} {x : Int} (h : xs[k]? = some x) : tXY xs (k + 1) = tXY xs k + k * x := by simp [tXY, List.getD, h]

set_option maxHeartbeats 2000000 in
theorem implTrendOf_calls (A : Option Addr) (n c : Nat) (xs : List Int) (w : World) (h : RdI w A n xs) (hn : n ≤ 1048576) :
    Calls Try.prog 24 #[.slice A n c] w fun e w' => e = .returned (.tuple #[.int .i64 (trA xs), .int .i64 (trB xs), .int .i64 (trC xs)]) ∧ ∃ m, w' = w.drewN m := by
  have HL := hide h.len
  cases hok : okSer xs
  · go_enter Try.func24, Try.ntmps24
    go_wp2_with (first | (go_at_call 53; refine (implValidSeries_calls _ _ _ _ _ h hn).mono ?_; rintro e w' ⟨rfl, rfl⟩) | (go_at_call 45; refine (sizeI_calls _ _ _ _ hn).mono ?_; rintro e w' ⟨rfl, rfl⟩))
    go_ret3
    exact ⟨congrArg Ending.returned (trT_bad hok).symm, 0, rfl⟩
  · by_cases h1 : n = 1
    · have HB := hide (trT_one hok (by rw [HL.out]; exact h1))
      subst h1
      go_enter Try.func24, Try.ntmps24
      go_wp2_with (first | (go_at_call 53; refine (implValidSeries_calls _ _ _ _ _ h hn).mono ?_; rintro e w' ⟨rfl, rfl⟩) | (go_at_call 45; refine (sizeI_calls _ _ _ _ hn).mono ?_; rintro e w' ⟨rfl, rfl⟩))
      go_ret3
      exact ⟨congrArg Ending.returned HB.out.symm, 0, rfl⟩
    · have h2 : 2 ≤ n := by have := (ok_len hok).1; have := HL.out; omega
      have h60 : n ≤ 60 := by have := (ok_len hok).2; have := HL.out; omega
      have e1 : ((n : Int) == 1) = false := by simp; omega
      have HB := hide (trT_ok hok (by rw [HL.out]; exact h1))
      have HOK := hide hok
      have hall : Hid (∀ x ∈ xs, 0 ≤ x ∧ x ≤ 1000000) := by
        intro x hx
        have := HOK.out
        simp only [okSer, Bool.and_eq_true, List.all_eq_true] at this
        exact withinB_iff.1 (this.2 x hx)
      go_enter Try.func24, Try.ntmps24
      go_wp2_with (first | (go_at_call 53; refine (implValidSeries_calls _ _ _ _ _ h hn).mono ?_; rintro e w' ⟨rfl, rfl⟩) | (go_at_call 45; refine (sizeI_calls _ _ _ _ hn).mono ?_; rintro e w' ⟨rfl, rfl⟩))
      clear hok h1
      go_loop [6, 7, 8, 9, 23] (fun x y xx xy i => ∃ (k : Nat), k ≤ n ∧ i = .int .i64 k ∧ x = .int .i64 (tX k) ∧ y = .int .i64 (sumZ (xs.take k)) ∧ xx = .int .i64 (tXX k) ∧ xy = .int .i64 (tXY xs k)) (fun _ _ _ _ i => n - (intOf i).toNat)
      case atStart => exact ⟨0, Nat.zero_le _, rfl, rfl, rfl, rfl, rfl⟩
      case round =>
        obtain ⟨k, hk, rfl, rfl, rfl, rfl, rfl⟩ := hrel
        by_cases hlt : k < n
        · obtain ⟨b, off, x, rfl, hbl, hx, hc, hx1, hx2⟩ := h.at hlt
          obtain ⟨v1, v2⟩ := hall.out x (List.mem_of_getElem? hx.out)
          obtain ⟨t1, t2⟩ := tX_bd k (by omega)
          obtain ⟨t3, t4⟩ := tXX_bd k (by omega)
          obtain ⟨t5, t6⟩ := tXY_bd xs hall.out k (by omega) (by rw [HL.out]; omega)
          obtain ⟨t7, t8⟩ := sq_bd (k := k) (by omega)
          obtain ⟨t9, t10⟩ := kx_bd (k := k) (x := x) (by omega) ⟨v1, v2⟩
          obtain ⟨s1, s2⟩ := (Small.of_ok HOK.out).take k
          have E1 := hide (sumZ_snoc hx.out)
          have E2 := hide (tX_succ k)
          have E3 := hide (tXX_succ k)
          have E4 := hide (tXY_succ hx.out)
          go_wp2
          go_round
          case rel => exact ⟨k + 1, by omega, by go_num, by rw [E2.out], by rw [E1.out], by rw [E3.out], by rw [E4.out]⟩
          case measure => simp [intOf]; omega
        · have hkn : k = n := by omega
          subst hkn
          have ht : xs.take k = xs := List.take_of_length_le (by rw [HL.out]; omega)
          rw [ht]
          clear ht
          obtain ⟨⟨a1, a2⟩, ⟨b1, b2⟩, ⟨c1, c2⟩, ⟨d1, d2⟩, ⟨p1, p2⟩, ⟨f1, f2⟩, g⟩ := trend_bds HOK.out HL.out h2
          obtain ⟨⟨s1, s2⟩, s3, s4⟩ := slope_bds HOK.out HL.out h2
          have hS : Hid (nearZ (1000 * ((k : Int) * tXY xs k - tX k * sumZ xs)) ((k : Int) * tXX k - tX k * tX k) = tSlope xs) := by
            unfold Hid tSlope tNum tDen
            rw [HL.out]
          have hT : Hid (nearZ (1000 * sumZ xs - tSlope xs * tX k) (1000 * (k : Int)) = tStart xs) := by
            unfold Hid tStart
            rw [HL.out]
          go_wp2_with fail
          refine (nearest_calls _ _ _ (by omega) (by omega) (by omega) (by omega)).mono ?_
          rintro e w' ⟨rfl, m, rfl⟩
          rw [hS.out]
          go_wp2_with fail
          refine (nearest_calls _ _ _ (by omega) (by omega) (by omega) (by omega)).mono ?_
          rintro e w' ⟨rfl, m, rfl⟩
          rw [hT.out]
          go_wp2
          go_ret3
          exact ⟨congrArg Ending.returned HB.out.symm, (by first | exact ⟨_, rfl⟩ | exact drewN2 _ _ _)⟩

end Go.Proofs.Ytmpfkmbfbeejhaa
