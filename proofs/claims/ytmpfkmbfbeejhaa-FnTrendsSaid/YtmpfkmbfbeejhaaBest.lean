/- BestRun of the program and of the reference: both return what brZ gives. -/
import Derived.Test.YtmpfkmbfbeejhaaSer
namespace Go.Proofs.Ytmpfkmbfbeejhaa
open Go.RowKit

/-- The best run behind index k: its first place, its length, where the run that is under way began. -/
def brZ (xs : List Int) : Nat → Nat × Nat × Nat
  | 0 => (0, 1, 0)
  | k + 1 =>
    let s := brZ xs k
    let f := if xs.getD (k + 1) 0 ≤ xs.getD k 0 then k + 1 else s.2.2
    if s.2.1 < k + 2 - f then (f, k + 2 - f, f) else (s.1, s.2.1, f)

theorem brZ_bd (xs : List Int) (k : Nat) : (brZ xs k).1 ≤ k ∧ (brZ xs k).2.1 ≤ k + 1 ∧ (brZ xs k).2.2 ≤ k := by
  induction k with
  | zero => simp [brZ]
  | succ k ih =>
    simp only [brZ]
    split <;> split <;> simp only [] <;> omega

theorem brZ_step {xs : List Int} {k b m f : Nat} {x y : Int} (h : brZ xs k = (b, m, f)) (hx : xs[k + 1]? = some x) (hy : xs[k]? = some y) :
    brZ xs (k + 1) = (if m < k + 2 - (if x ≤ y then k + 1 else f) then ((if x ≤ y then k + 1 else f), k + 2 - (if x ≤ y then k + 1 else f), (if x ≤ y then k + 1 else f)) else (b, m, (if x ≤ y then k + 1 else f))) := by
  simp [brZ, h, List.getD, hx, hy]

/-- What BestRun returns. -/
def bestA (xs : List Int) : Int := if okSer xs then ((brZ xs (xs.length - 1)).1 : Int) else 0
def bestB (xs : List Int) : Int := if okSer xs then ((brZ xs (xs.length - 1)).2.1 : Int) else 0
def bestC (xs : List Int) : Int := if okSer xs then 0 else 1
def bestT (xs : List Int) : Value := .tuple #[.int .i64 (bestA xs), .int .i64 (bestB xs), .int .i64 (bestC xs)]

theorem brZ_le {xs : List Int} {k b m f : Nat} {x y : Int} (h : brZ xs k = (b, m, f)) (hx : xs[k + 1]? = some x) (hy : xs[k]? = some y) (hle : x ≤ y) (hm : 1 ≤ m) : brZ xs (k + 1) = (b, m, k + 1) := by
  rw [brZ_step h hx hy, if_pos hle, if_neg (by omega)]
theorem brZ_gt {xs : List Int} {k b m f : Nat} {x y : Int} (h : brZ xs k = (b, m, f)) (hx : xs[k + 1]? = some x) (hy : xs[k]? = some y) (hle : ¬ x ≤ y) (hm : m < k + 2 - f) : brZ xs (k + 1) = (f, k + 2 - f, f) := by
  rw [brZ_step h hx hy, if_neg hle, if_pos hm]
theorem brZ_no {xs : List Int} {k b m f : Nat} {x y : Int} (h : brZ xs k = (b, m, f)) (hx : xs[k + 1]? = some x) (hy : xs[k]? = some y) (hle : ¬ x ≤ y) (hm : ¬ m < k + 2 - f) : brZ xs (k + 1) = (b, m, f) := by
  rw [brZ_step h hx hy, if_neg hle, if_neg hm]
theorem ret_best {xs : List Int} {n k b m f : Nat} (hok : okSer xs = true) (hl : xs.length = n) (hk : k + 1 = n) (h : brZ xs k = (b, m, f)) : bestT xs = .tuple #[.int .i64 b, .int .i64 m, .int .i64 0] := by
  have : xs.length - 1 = k := by omega
  simp [bestT, bestA, bestB, bestC, hok, this, h]
theorem ret_bad {xs : List Int} (hok : okSer xs = false) : bestT xs = .tuple #[.int .i64 0, .int .i64 0, .int .i64 1] := by
  simp [bestT, bestA, bestB, bestC, hok]

set_option maxHeartbeats 1000000 in
theorem implBestRun_calls (A : Option Addr) (n c : Nat) (xs : List Int) (w : World) (h : RdI w A n xs) (hn : n ≤ 1048576) :
    Calls Try.prog 16 #[.slice A n c] w fun e w' => e = .returned (.tuple #[.int .i64 (bestA xs), .int .i64 (bestB xs), .int .i64 (bestC xs)]) ∧ ∃ m, w' = w.drewN m := by
  have HL := hide h.len
  cases hok : okSer xs
  · go_enter Try.func16, Try.ntmps16
    go_wp2_with (go_at_call 53; refine (implValidSeries_calls _ _ _ _ _ h hn).mono ?_; rintro e w' ⟨rfl, rfl⟩)
    go_ret3
    exact ⟨congrArg Ending.returned (ret_bad hok).symm, 0, rfl⟩
  · have h1 : 1 ≤ n := by
      have := HL.out
      simp only [okSer, Bool.and_eq_true, decide_eq_true_eq] at hok
      omega
    go_enter Try.func16, Try.ntmps16
    go_wp2_with (go_at_call 53; refine (implValidSeries_calls _ _ _ _ _ h hn).mono ?_; rintro e w' ⟨rfl, rfl⟩)
    have HOK := hide hok
    clear hok
    go_loopw [5, 6, 7, 8] (fun b m f i wr => ∃ (k b' m' f' : Nat), k + 1 ≤ n ∧ i = .int .i64 (k + 1 : Nat) ∧ b = .int .i64 b' ∧ m = .int .i64 m' ∧ f = .int .i64 f' ∧ Hid (brZ xs k = (b', m', f')) ∧ b' ≤ k ∧ m' ≤ k + 1 ∧ f' ≤ k ∧ 1 ≤ m' ∧ ∃ j, wr = w.drewN j) (fun _ _ _ i _ => n - (intOf i).toNat)
    case atStart => exact ⟨0, 0, 1, 0, by omega, rfl, rfl, rfl, rfl, rfl, by omega, by omega, by omega, by omega, 0, rfl⟩
    case round =>
      obtain ⟨k, b', m', f', hk, rfl, rfl, rfl, rfl, hbr, hb1, hm1, hf1, hm2, j, rfl⟩ := hrel
      by_cases hlt : k + 1 < n
      · obtain ⟨b, off, x, rfl, hbl, hx, hc, hx1, hx2⟩ := h.at hlt
        obtain ⟨b0, off0, y, hbo, hbl', hy, hc', hy1, hy2⟩ := h.at (k := k) (by omega)
        obtain ⟨rfl, rfl⟩ : b = b0 ∧ off = off0 := by simpa using hbo
        clear hbo
        by_cases hle : x ≤ y
        · have HB := hide (brZ_le hbr.out hx.out hy.out hle hm2)
          go_wp2
          go_quiet (fail)
          go_wp2
          go_roundw
          case rel => exact ⟨k + 1, b', m', k + 1, by omega, by go_num, rfl, rfl, by go_num, HB, by omega, by omega, by omega, by omega, (by first | exact ⟨_, rfl⟩ | exact drewN2 _ _ _)⟩
          case measure => simp [intOf]; omega
        · by_cases hgt : m' < k + 2 - f'
          · have HB := hide (brZ_gt hbr.out hx.out hy.out hle hgt)
            go_wp2
            go_quiet (fail)
            go_wp2
            go_roundw
            case rel => exact ⟨k + 1, f', k + 2 - f', f', by omega, by go_num, rfl, by congr 1; omega, rfl, HB, by omega, by omega, by omega, by omega, (by first | exact ⟨_, rfl⟩ | exact drewN2 _ _ _)⟩
            case measure => simp [intOf]; omega
          · have HB := hide (brZ_no hbr.out hx.out hy.out hle hgt)
            go_wp2
            go_quiet (fail)
            go_wp2
            go_roundw
            case rel => exact ⟨k + 1, b', m', f', by omega, by go_num, rfl, rfl, rfl, HB, by omega, by omega, by omega, by omega, (by first | exact ⟨_, rfl⟩ | exact drewN2 _ _ _)⟩
            case measure => simp [intOf]; omega
      · have hkn : k + 1 = n := by omega
        have HK := hide hkn
        clear hkn
        go_wp2
        go_ret3
        exact ⟨congrArg Ending.returned (ret_best HOK.out HL.out HK.out hbr.out).symm, _, rfl⟩

end Go.Proofs.Ytmpfkmbfbeejhaa
