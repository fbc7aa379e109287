/- The greatest number, and Histogram of the program and of the reference. -/
import Derived.Test.YtmpfkmbfbeejhaaMoving
namespace Go.Proofs.Ytmpfkmbfbeejhaa
open Go.RowKit
set_option linter.unusedVariables false

/-- The greatest of the first k + 1 numbers. -/
def mxZ (xs : List Int) : Nat → Int
  | 0 => xs.getD 0 0
  | k + 1 => max (mxZ xs k) (xs.getD (k + 1) 0)
theorem mxZ_ge (xs : List Int) : ∀ (k i : Nat), i ≤ k → xs.getD i 0 ≤ mxZ xs k
  | 0, i, h => by
    have : i = 0 := by omega
    subst this
    exact Int.le_refl _
  | k + 1, i, h => by
    rw [mxZ]
    by_cases hi : i = k + 1
    · subst hi; exact Int.le_max_right _ _
    · exact Int.le_trans (mxZ_ge xs k i (by omega)) (Int.le_max_left _ _)
theorem mxZ_bd {xs : List Int} (h : ∀ x ∈ xs, 0 ≤ x ∧ x ≤ 1000000) : ∀ k, k < xs.length → 0 ≤ mxZ xs k ∧ mxZ xs k ≤ 1000000
  | 0, hk => by
    rw [mxZ, List.getD, List.getElem?_eq_getElem hk]
    exact h _ (List.getElem_mem hk)
  | k + 1, hk => by
    have h1 := mxZ_bd h k (by omega)
    have h2 := h _ (List.getElem_mem hk)
    rw [mxZ, List.getD, List.getElem?_eq_getElem hk]
    simp only [Option.getD_some]
    omega
theorem mxZ_step {xs : List Int} {k : Nat} {x : Int} (hx : xs[k + 1]? = some x) : mxZ xs (k + 1) = max (mxZ xs k) x := by
  rw [mxZ, List.getD, hx]; rfl

set_option maxHeartbeats 1000000 in
theorem maxI_calls (A : Option Addr) (n c : Nat) (xs : List Int) (w : World) (h : RdI w A n xs) (hn : n ≤ 1048576) (h1 : 1 ≤ n) :
    Calls Try.prog 58 #[.slice A n c] w fun e w' => e = .returned (.int .i64 (mxZ xs (n - 1))) ∧ w = w' := by
  obtain ⟨b0, off0, x0, rfl, _, hx0, hc0, _, _⟩ := h.at (k := 0) (by omega)
  have hm0 : Hid (mxZ xs 0 = x0) := by unfold Hid; rw [mxZ, List.getD, hx0.out]; rfl
  have hc0' : w.cell? ⟨b0, off0, none⟩ = some (.int .i64 x0) := by simpa using hc0
  clear hc0
  go_enter Try.func58, Try.ntmps58
  go_wp2
  go_loop [3, 4] (fun m i => ∃ (k : Nat), k + 1 ≤ n ∧ i = .int .i64 (k + 1 : Nat) ∧ m = .int .i64 (mxZ xs k)) (fun _ i => n - (intOf i).toNat)
  case atStart => exact ⟨0, by omega, rfl, by rw [hm0.out]⟩
  case round =>
    obtain ⟨k, hk, rfl, rfl⟩ := hrel
    by_cases hlt : k + 1 < n
    · obtain ⟨b, off, x, hbo, hbl, hx, hc, hx1, hx2⟩ := h.at hlt
      obtain ⟨rfl, rfl⟩ : b0 = b ∧ off0 = off := by simpa using hbo
      clear hbo
      have HM := hide (mxZ_step hx.out)
      go_wp2
      all_goals
        go_round
        case rel =>
          refine ⟨k + 1, by omega, by go_num, ?_⟩
          rw [HM.out]
          first | rfl | (congr 1; omega)
        case measure => simp [intOf]; omega
    · have hkn : k + 1 = n := by omega
      have HK := hide hkn
      clear hkn
      go_wp2
      go_ret
      exact ⟨ret_int (by rw [← HK.out]; rfl), rfl⟩

/-- How many numbers of each size, behind k numbers. -/
def bump (cs : List Int) (j : Nat) : List Int := cs.set j (cs.getD j 0 + 1)
def histL (xs : List Int) (s m : Nat) : Nat → List Int
  | 0 => List.replicate m 0
  | k + 1 => bump (histL xs s m k) ((xs.getD k 0).toNat / s)
theorem histL_len (xs : List Int) (s m k : Nat) : (histL xs s m k).length = m := by
  induction k with
  | zero => simp [histL]
  | succ k ih => simp [histL, bump, ih]
theorem histL_bd (xs : List Int) (s m k : Nat) : ∀ x ∈ histL xs s m k, 0 ≤ x ∧ x ≤ k := by
  induction k with
  | zero =>
    intro x hx
    have := List.eq_of_mem_replicate hx
    omega
  | succ k ih =>
    intro x hx
    rw [histL, bump] at hx
    rcases List.mem_or_eq_of_mem_set hx with hx | hx
    · have := ih x hx; omega
    · subst hx
      by_cases hj : (xs.getD k 0).toNat / s < (histL xs s m k).length
      · have := ih _ (List.getElem_mem hj)
        rw [List.getD, List.getElem?_eq_getElem hj]
        simp only [Option.getD_some]
        omega
      · rw [List.getD, List.getElem?_eq_none (by omega)]
        simp only [Option.getD_none]
        omega
theorem histL_step {xs : List Int} {s m k X : Nat} (hx : xs[k]? = some (X : Int)) : histL xs s m (k + 1) = bump (histL xs s m k) (X / s) := by
  rw [histL, List.getD, hx]; rfl

/-- What Histogram returns. -/
def hiC (xs : List Int) (s : Int) : Int := if keptC xs (withinB s 1 1000000) = 0 then (if 60 < mxZ xs (xs.length - 1) / s + 1 then 5 else 0) else keptC xs (withinB s 1 1000000)
def hiV (xs : List Int) (s : Int) : List Int := if hiC xs s = 0 then histL xs s.toNat ((mxZ xs (xs.length - 1)).toNat / s.toNat + 1) xs.length else []

set_option maxRecDepth 100000 in
set_option maxHeartbeats 2000000 in
theorem implHistogram_calls (A : Option Addr) (n c : Nat) (xs : List Int) (s : Int) (w : World) (h : RdI w A n xs) (hs : I64 s) (hn : n ≤ 1048576) :
    Calls Try.prog 22 #[.slice A n c, .int .i64 s] w fun e w' => ∃ A' n' c', e = .returned (.tuple #[.slice A' n' c', .int .i64 (hiC xs s)]) ∧ FrI w' w.heap.size w'.heap.size 2 A' n' (hiV xs s) ∧ n' ≤ 1048576 ∧ Below w.heap.size w w' := by
  have HL := hide h.len
  obtain ⟨i0, hi, hz0, hz1, hz2⟩ := info_parts Try.info2
  by_cases hk : keptC xs (withinB s 1 1000000) = 0
  · obtain ⟨hok, hwi⟩ : okSer xs = true ∧ withinB s 1 1000000 = true := by
      rcases kept_cases xs (withinB s 1 1000000) with ⟨_, h3⟩ | ⟨_, _, h3⟩ | ⟨h1, h2, _⟩
      · omega
      · omega
      · exact ⟨h1, h2⟩
    clear hk
    obtain ⟨s1, s2⟩ := withinB_iff.1 hwi
    have h60 := (ok_len hok).2
    have h1 := (ok_len hok).1
    rw [HL.out] at h60 h1
    have hall := hide (ok_mem hok)
    obtain ⟨S, rfl⟩ := Int.eq_ofNat_of_zero_le (by omega : 0 ≤ s)
    have hmx := mxZ_bd hall.out (n - 1) (by rw [HL.out]; omega)
    obtain ⟨M, hM⟩ := Int.eq_ofNat_of_zero_le hmx.1
    have HM := hide hM
    rw [hM] at hmx
    obtain ⟨_, hM2⟩ := hmx
    clear hM
    have hK0 : keptC xs (withinB S 1 1000000) = 0 := by unfold keptC; rw [hok, hwi]; rfl
    have hMS0 : 0 ≤ (M : Int) / S := Int.ediv_nonneg (by omega) (by omega)
    have hMS1 : (M : Int) / S ≤ M := Int.ediv_le_self _ (by omega)
    have K0 := hide hK0
    by_cases hbig : (60 : Int) < (M : Int) / S + 1
    · have HC : Hid (hiC xs S = 5) := by unfold Hid hiC; rw [if_pos hK0, HL.out, HM.out, if_pos hbig]
      have HV : Hid (hiV xs S = []) := by unfold Hid hiV; rw [HC.out]; rfl
      clear hK0
      clear hok hwi
      go_enter Try.func22, Try.ntmps22
      go_wp2_with fail
      refine (within_calls _ _ _ _).mono ?_
      rintro e w' ⟨rfl, rfl⟩
      go_wp2_with fail
      refine (kept_calls _ _ _ _ _ _ h hn).mono ?_
      rintro e w' ⟨rfl, rfl⟩
      rw [K0.out]
      go_wp2_with fail
      refine (maxI_calls _ _ _ _ _ h hn h1).mono ?_
      rintro e w' ⟨rfl, rfl⟩
      rw [HM.out]
      go_wp2
      go_ret2
      refine ⟨none, 0, 0, ret_two rfl (congrArg (Value.int .i64) HC.out.symm), ?_, by omega, Below.refl _ _⟩
      rw [HV.out]
      exact FrI.nil
    · have HC : Hid (hiC xs S = 0) := by unfold Hid hiC; rw [if_pos hK0, HL.out, HM.out, if_neg hbig]
      have HV : Hid (hiV xs S = histL xs S (M / S + 1) n) := by unfold Hid hiV; rw [HC.out, HL.out, HM.out]; rfl
      have hMn : M / S + 1 ≤ 60 := by have : ((M / S : Nat) : Int) = (M : Int) / S := Int.natCast_ediv _ _
                                      omega
      have hcast : (M : Int) / S + 1 = ((M / S + 1 : Nat) : Int) := by rw [Int.natCast_add, Int.natCast_ediv]; rfl
      have HCA := hide hcast
      clear hK0 hcast
      clear hok hwi
      go_enter Try.func22, Try.ntmps22
      go_wp2_with fail
      refine (within_calls _ _ _ _).mono ?_
      rintro e w' ⟨rfl, rfl⟩
      go_wp2_with fail
      refine (kept_calls _ _ _ _ _ _ h hn).mono ?_
      rintro e w' ⟨rfl, rfl⟩
      rw [K0.out]
      go_wp2_with fail
      refine (maxI_calls _ _ _ _ _ h hn h1).mono ?_
      rintro e w' ⟨rfl, rfl⟩
      rw [HM.out]
      go_wp2_with (refine wpList_make_full _ rfl _ _ 22 rfl w.heap.size 2 i0 (.int .i64 0) 1 Try.underlying22 hi hz0 hz1 .i64 .i64 _ _ (M / S + 1) rfl rfl ?m1 ?m2 (by rw [hz2]; omega) (by unfold maxLen; omega) (Nat.le_refl _) ?_; rotate_left 2; intro w1 hown1 hgr1)
      case m1 => exact HCA.out
      case m2 => exact HCA.out
      have hb1 : Below w.heap.size w w1 := (Below.refl _ _).grown hgr1 (Nat.le_refl _) (fun k hk => by cases hk)
      go_loopw [29] (fun i wr => ∃ (k : Nat), k ≤ n ∧ i = .int .i64 k ∧ wr.ownsRow w.heap.size 2 1 (.slice (some ⟨w.heap.size, 0, none⟩) (M / S + 1) (M / S + 1)) (M / S + 1) (cI (histL xs S (M / S + 1) k)) ∧ Below w.heap.size w wr) (fun i _ => n - (intOf i).toNat)
      case atStart => exact ⟨0, by omega, rfl, by simpa [cI, histL, toList_madeCells_one, Value.cells] using hown1, hb1⟩
      case round =>
        clear hown1
        obtain ⟨k, hk, rfl, hown, hb⟩ := hrel
        have HO := hide hown
        by_cases hlt : k < n
        · obtain ⟨b, off, x, rfl, hbl, hx, hc, hx1, hx2⟩ := (h.below hb (Nat.le_refl _)).at hlt
          obtain ⟨v1, v2⟩ := hall.out x (List.mem_of_getElem? hx.out)
          obtain ⟨X, rfl⟩ := Int.eq_ofNat_of_zero_le v1
          have hXM : X / S ≤ M / S := Nat.div_le_div_right (by
            have := mxZ_ge xs (n - 1) k (by omega)
            rw [List.getD, hx.out, HM.out] at this
            simp only [Option.getD_some] at this
            omega)
          have HE := hide (histL_step (s := S) (m := M / S + 1) hx.out)
          obtain ⟨v0, hc2, hf2, hst⟩ := own_store (k := X / S) hown (by omega)
          have hl0 := histL_len xs S (M / S + 1) k
          have hv0 : v0 = .int .i64 ((histL xs S (M / S + 1) k).getD (X / S) 0) := by
            have := hown.cellAt (X / S) (by omega)
            rw [hc2] at this
            simp only [cI, List.getElem?_map, List.getD, List.getElem?_eq_getElem (by omega : X / S < (histL xs S (M / S + 1) k).length), Option.map_some, Option.some.injEq, Option.getD_some] at this ⊢
            exact this
          have hbd : 0 ≤ (histL xs S (M / S + 1) k).getD (X / S) 0 ∧ (histL xs S (M / S + 1) k).getD (X / S) 0 ≤ k := by
            rw [List.getD, List.getElem?_eq_getElem (by omega : X / S < (histL xs S (M / S + 1) k).length)]
            exact histL_bd xs S (M / S + 1) k _ (List.getElem_mem _)
          clear hl0
          subst hv0
          have HG : Hid (bump (histL xs S (M / S + 1) k) (X / S) = (histL xs S (M / S + 1) k).set (X / S) ((histL xs S (M / S + 1) k).getD (X / S) 0 + 1)) := rfl
          generalize (histL xs S (M / S + 1) k).getD (X / S) 0 = y at hc2 hbd HG
          obtain ⟨hbd1, hbd2⟩ := hbd
          clear hown
          have hXMi : (X : Int) / S < (M : Int) / S + 1 := by have : ((X / S : Nat) : Int) ≤ ((M / S : Nat) : Int) := by omega
                                                              simp only [Int.natCast_ediv] at this; omega
          have hX0 : 0 ≤ (X : Int) / S := Int.ediv_nonneg (by omega) (by omega)
          go_wp2
          go_roundw
          case rel =>
            refine ⟨k + 1, by omega, by go_num, ?_, hb.setCell (by simp) _⟩
            have := hst.out (.int .i64 (y + 1))
            rw [HE.out, HG.out]
            simpa [cI, List.map_set] using this
          case measure => simp [intOf]; omega
        · have hkn : k = n := by omega
          subst hkn
          clear hown
          go_wp2
          go_ret2
          refine ⟨_, _, _, ret_two rfl (congrArg (Value.int .i64) HC.out.symm), ?_, by omega, hb⟩
          rw [HV.out]
          exact FrI.of_own HO.out (fun x hx => by have := histL_bd xs S (M / S + 1) k x hx; exact ⟨by omega, by omega⟩)
  · have HC : Hid (hiC xs s = keptC xs (withinB s 1 1000000)) := by unfold Hid hiC; rw [if_neg hk]
    have HV : Hid (hiV xs s = []) := by unfold Hid hiV; rw [HC.out, if_neg hk]
    have e0 : (keptC xs (withinB s 1 1000000) != 0) = true := by simpa using hk
    clear hk
    go_enter Try.func22, Try.ntmps22
    go_wp2_with fail
    refine (within_calls _ _ _ _).mono ?_
    rintro e w' ⟨rfl, rfl⟩
    go_wp2_with fail
    refine (kept_calls _ _ _ _ _ _ h hn).mono ?_
    rintro e w' ⟨rfl, rfl⟩
    go_wp2
    go_ret2
    refine ⟨none, 0, 0, ret_two rfl (congrArg (Value.int .i64) HC.out.symm), ?_, by omega, Below.refl _ _⟩
    rw [HV.out]
    exact FrI.nil

end Go.Proofs.Ytmpfkmbfbeejhaa
