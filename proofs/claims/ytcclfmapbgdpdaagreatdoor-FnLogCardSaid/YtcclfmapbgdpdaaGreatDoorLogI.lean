/- isLater, validLine, isLog of the program; l25One, l25Lines of the reference. Printed by gen_log.py. -/
import Derived.Test.YtcclfmapbgdpdaaGreatDoorLogZ
import Derived.Test.YtcclfmapbgdpdaaGreatDoorTake
namespace Go.Proofs.YtcclfmapbgdpdaaGreatDoor
open Go.RowKit
set_option linter.unusedVariables false

set_option maxHeartbeats 2000000 in
theorem isLater_calls (a b : LineZ) (w : World) :
    Calls Tryz.prog 93 #[.agg #[.int .i64 a.day, .int .i64 a.minute, .string a.text, .int .i64 a.crc], .agg #[.int .i64 b.day, .int .i64 b.minute, .string b.text, .int .i64 b.crc]] w fun e w' => e = .returned (.bool (laterB a b)) ∧ Below w.heap.size w w' := by
  obtain ⟨p0, p1, p2, p3⟩ := a
  obtain ⟨f0, f1, f2, f3⟩ := b
  simp only
  have HZ : Hid (laterB ⟨p0, p1, p2, p3⟩ ⟨f0, f1, f2, f3⟩ = (decide (f0 < p0) || (decide (p0 = f0) && decide (f1 < p1)))) := rfl
  have hB := hide (((Below.refl w.heap.size w).alloc (Nat.le_refl _) (.cells #[.int .i64 p0, .int .i64 p1, .string p2, .int .i64 p3] 48)).alloc (by simp) (.cells #[.int .i64 f0, .int .i64 f1, .string f2, .int .i64 f3] 48))
  rcases b_cases (decide (f0 < p0)) with h1 | h1
  · rw [h1] at HZ
    rcases b_cases (decide (p0 = f0)) with h2 | h2
    · rw [h2] at HZ
      have h2' : (p0 == f0) = false := by simpa using h2
      clear h2
      go_enter Tryz.func93, Tryz.ntmps93
      go_wp2
      go_ret
      exact ⟨ret_bool HZ.out.symm, hB.out⟩
    · rw [h2] at HZ
      obtain rfl : p0 = f0 := by simpa using h2
      clear h2
      rcases b_cases (decide (f1 < p1)) with h3 | h3
      · rw [h3] at HZ
        go_enter Tryz.func93, Tryz.ntmps93
        go_wp2
        go_ret
        exact ⟨ret_bool HZ.out.symm, hB.out⟩
      · rw [h3] at HZ
        go_enter Tryz.func93, Tryz.ntmps93
        go_wp2
        go_ret
        exact ⟨ret_bool HZ.out.symm, hB.out⟩
  · rw [h1] at HZ
    go_enter Tryz.func93, Tryz.ntmps93
    go_wp2
    go_ret
    exact ⟨ret_bool HZ.out.symm, hB.out⟩

set_option maxHeartbeats 2000000 in
theorem validLine_calls (x : LineZ) (w : World) (hm : TabM w) (hs : x.text.size ≤ 1048576) :
    Calls Tryz.prog 99 #[.agg #[.int .i64 x.day, .int .i64 x.minute, .string x.text, .int .i64 x.crc]] w fun e w' => e = .returned (.bool (lineB x)) ∧ Below w.heap.size w w' := by
  obtain ⟨f0, f1, f2, f3⟩ := x
  simp only at hs ⊢
  have HZ : Hid (lineB ⟨f0, f1, f2, f3⟩ = (dayB f0 && minB f1 && textB f2 && crcB f3)) := rfl
  obtain ⟨W0, hW0⟩ : ∃ W0, W0 = w.alloc (.cells #[.int .i64 f0, .int .i64 f1, .string f2, .int .i64 f3] 48) := ⟨_, rfl⟩
  have hB : Below w.heap.size w W0 := by rw [hW0]; exact (Below.refl _ _).alloc (Nat.le_refl _) _
  have e0 : W0.cell? ⟨w.heap.size, 0, none⟩ = some (.int .i64 f0) := by rw [hW0]; simp
  have e1 : W0.cell? ⟨w.heap.size, 1, none⟩ = some (.int .i64 f1) := by rw [hW0]; simp
  have e2 : W0.cell? ⟨w.heap.size, 2, none⟩ = some (.string f2) := by rw [hW0]; simp
  have e3 : W0.cell? ⟨w.heap.size, 3, none⟩ = some (.int .i64 f3) := by rw [hW0]; simp
  have hz : w.heap.size < W0.heap.size := by rw [hW0]; simp
  have HX : Hid (Calls Tryz.prog 92 #[.string f2] W0 fun e w' => e = .returned (.bool (textB f2)) ∧ Below W0.heap.size W0 w') := isText_calls f2 W0 (hm.here hB) hs
  have HD := hide (isOpsDay_calls f0 W0)
  have HM := hide (isMinute_calls f1 W0)
  have HC : Hid (∀ W, Calls Tryz.prog 101 #[.int .i64 f3] W fun e w' => e = .returned (.bool (crcB f3)) ∧ W = w') := isSeal_calls f3
  rcases b_cases (dayB f0) with h1 | h1
  · rw [h1] at HZ HD
    clear h1
    go_enter Tryz.func99, Tryz.ntmps99
    go_wp2_with fail
    rw [← hW0]
    clear hW0
    go_wp2_with fail
    refine HD.out.mono ?_
    rintro e w1 ⟨rfl, rfl⟩
    go_wp2
    go_ret
    exact ⟨ret_bool (by rw [HZ.out]; rfl), hB⟩
  rw [h1] at HZ HD
  clear h1
  rcases b_cases (minB f1) with h2 | h2
  · rw [h2] at HZ HM
    clear h2
    go_enter Tryz.func99, Tryz.ntmps99
    go_wp2_with fail
    rw [← hW0]
    clear hW0
    go_wp2_with fail
    refine HD.out.mono ?_
    rintro e w1 ⟨rfl, rfl⟩
    go_wp2_with fail
    refine HM.out.mono ?_
    rintro e w1 ⟨rfl, rfl⟩
    go_wp2
    go_ret
    exact ⟨ret_bool (by rw [HZ.out]; rfl), hB⟩
  rw [h2] at HZ HM
  clear h2
  rcases b_cases (textB f2) with h3 | h3
  · rw [h3] at HZ HX
    clear h3
    go_enter Tryz.func99, Tryz.ntmps99
    go_wp2_with fail
    rw [← hW0]
    clear hW0
    go_wp2_with fail
    refine HD.out.mono ?_
    rintro e w1 ⟨rfl, rfl⟩
    go_wp2_with fail
    refine HM.out.mono ?_
    rintro e w1 ⟨rfl, rfl⟩
    go_wp2_with fail
    refine HX.out.mono ?_
    rintro e w3 ⟨rfl, hb3⟩
    have e4 := (hb3.cell (p := ⟨w.heap.size, 3, none⟩) hz).trans e3
    go_wp2
    go_ret
    exact ⟨ret_bool (by rw [HZ.out]; rfl), hB.trans (hb3.mono hB.size)⟩
  rw [h3] at HZ HX
  clear h3
  go_enter Tryz.func99, Tryz.ntmps99
  go_wp2_with fail
  rw [← hW0]
  clear hW0
  go_wp2_with fail
  refine HD.out.mono ?_
  rintro e w1 ⟨rfl, rfl⟩
  go_wp2_with fail
  refine HM.out.mono ?_
  rintro e w1 ⟨rfl, rfl⟩
  go_wp2_with fail
  refine HX.out.mono ?_
  rintro e w3 ⟨rfl, hb3⟩
  have e4 := (hb3.cell (p := ⟨w.heap.size, 3, none⟩) hz).trans e3
  go_wp2_with fail
  refine (HC.out _).mono ?_
  rintro e w1 ⟨rfl, rfl⟩
  go_wp2
  go_ret
  exact ⟨ret_bool (by rw [HZ.out]; rfl), hB.trans (hb3.mono hB.size)⟩

set_option maxHeartbeats 2000000 in
theorem l25One_calls (x : LineZ) (b off : Nat) (w : World) (hs : x.text.size ≤ 1048576) (hb : b < w.heap.size)
    (e0 : w.cell? ⟨b, off, none⟩ = some (.int .i64 x.day)) (e1 : w.cell? ⟨b, off + 1, none⟩ = some (.int .i64 x.minute)) (e2 : w.cell? ⟨b, off + 2, none⟩ = some (.string x.text)) (e3 : w.cell? ⟨b, off + 3, none⟩ = some (.int .i64 x.crc)) :
    Calls Tryz.prog 213 #[.pointer (some ⟨b, off, none⟩)] w fun e w' => e = .returned (.bool (lineB x)) ∧ Below w.heap.size w w' := by
  obtain ⟨f0, f1, f2, f3⟩ := x
  simp only at hs e0 e1 e2 e3 ⊢
  have HZ : Hid (lineB ⟨f0, f1, f2, f3⟩ = (dayB f0 && minB f1 && textB f2 && crcB f3)) := rfl
  have HX := hide (l25Text_calls f2 w hs)
  have HD := hide (l21Day_calls f0 w)
  have HI : Hid (∀ n l h W, Calls Tryz.prog 162 #[.int .i64 n, .int .i64 l, .int .i64 h] W fun e w' => e = .returned (.bool (withinB n l h)) ∧ W = w') := l00In_calls
  have HM : Hid (withinB f1 0 1439 = minB f1) := rfl
  have HC : Hid (withinB f3 0 65535 = crcB f3) := rfl
  rcases b_cases (dayB f0) with h1 | h1
  · rw [h1] at HZ HD
    clear h1
    go_enter Tryz.func213, Tryz.ntmps213
    go_wp2_with fail
    refine HD.out.mono ?_
    rintro e w1 ⟨rfl, rfl⟩
    go_wp2
    go_ret
    exact ⟨ret_bool (by rw [HZ.out]; rfl), Below.refl _ _⟩
  rw [h1] at HZ HD
  clear h1
  rcases b_cases (minB f1) with h2 | h2
  · rw [h2] at HZ HM
    clear h2
    go_enter Tryz.func213, Tryz.ntmps213
    go_wp2_with fail
    refine HD.out.mono ?_
    rintro e w1 ⟨rfl, rfl⟩
    go_wp2_with fail
    refine (HI.out _ _ _ _).mono ?_
    rw [HM.out]
    rintro e w1 ⟨rfl, rfl⟩
    go_wp2
    go_ret
    exact ⟨ret_bool (by rw [HZ.out]; rfl), Below.refl _ _⟩
  rw [h2] at HZ HM
  clear h2
  rcases b_cases (textB f2) with h3 | h3
  · rw [h3] at HZ HX
    clear h3
    go_enter Tryz.func213, Tryz.ntmps213
    go_wp2_with fail
    refine HD.out.mono ?_
    rintro e w1 ⟨rfl, rfl⟩
    go_wp2_with fail
    refine (HI.out _ _ _ _).mono ?_
    rw [HM.out]
    rintro e w1 ⟨rfl, rfl⟩
    go_wp2_with fail
    refine HX.out.mono ?_
    rintro e w3 ⟨rfl, hb3⟩
    have e4 := (hb3.cell (p := ⟨b, off + 3, none⟩) hb).trans e3
    go_wp2
    go_ret
    exact ⟨ret_bool (by rw [HZ.out]; rfl), hb3⟩
  rw [h3] at HZ HX
  clear h3
  rcases b_cases (crcB f3) with h4 | h4
  all_goals
    rw [h4] at HZ HC
    clear h4
    go_enter Tryz.func213, Tryz.ntmps213
    go_wp2_with fail
    refine HD.out.mono ?_
    rintro e w1 ⟨rfl, rfl⟩
    go_wp2_with fail
    refine (HI.out _ _ _ _).mono ?_
    rw [HM.out]
    rintro e w1 ⟨rfl, rfl⟩
    go_wp2_with fail
    refine HX.out.mono ?_
    rintro e w3 ⟨rfl, hb3⟩
    have e4 := (hb3.cell (p := ⟨b, off + 3, none⟩) hb).trans e3
    go_wp2_with fail
    refine (HI.out _ _ _ _).mono ?_
    rw [HC.out]
    rintro e w1 ⟨rfl, rfl⟩
    go_wp2
    go_ret
    exact ⟨ret_bool (by rw [HZ.out]; rfl), hb3⟩

set_option maxRecDepth 100000 in
set_option maxHeartbeats 8000000 in
theorem isLog_calls (A : Option Addr) (n c : Nat) (xs : List LineZ) (w : World) (h : RdK kLine w A n xs) (hn : n ≤ 1048576) (hm : TabM w) (hsx : ∀ x ∈ xs, x.text.size ≤ 1048576) :
    Calls Tryz.prog 97 #[.slice A n c] w fun e w' => e = .returned (.bool (isLogB xs)) ∧ Below w.heap.size w w' := by
  have HL := hide h.2.1
  have HTM := hide hm
  clear hm
  go_enter Tryz.func97, Tryz.ntmps97
  go_wp2
  go_loopw [7] (fun i wr => ∃ (K : Nat), K ≤ n ∧ i = .int .i64 K ∧ Hid (∀ j, j < K → stepL xs j = true) ∧ Below w.heap.size w wr) (fun i _ => n - (intOf i).toNat)
  case atStart => exact ⟨0, Nat.zero_le _, rfl, fun j hj => absurd hj (by omega), Below.refl _ _⟩
  case round =>
    obtain ⟨K, hK, rfl, HC, hb⟩ := hrel
    by_cases hlt : K < n
    · obtain ⟨b, off, f0, f1, f2, f3, rfl, hbl, hx, hc0, hc1, hc2, hc3, hs0, hs1, hs2, hs3, hs4, hs5, hs6⟩ := (h.below hb (Nat.le_refl _)).atLine hlt
      have hb1 := (Below.refl wr.heap.size wr).alloc (Nat.le_refl _) (.cells #[.int .i64 f0, .int .i64 f1, .string f2, .int .i64 f3] 48)
      obtain ⟨W1, hW1⟩ : ∃ W1, W1 = wr.alloc (.cells #[.int .i64 f0, .int .i64 f1, .string f2, .int .i64 f3] 48) := ⟨_, rfl⟩
      rw [← hW1] at hb1
      have e0 : W1.cell? ⟨wr.heap.size, 0, none⟩ = some (.int .i64 f0) := by rw [hW1]; simp
      have e1 : W1.cell? ⟨wr.heap.size, 1, none⟩ = some (.int .i64 f1) := by rw [hW1]; simp
      have e2 : W1.cell? ⟨wr.heap.size, 2, none⟩ = some (.string f2) := by rw [hW1]; simp
      have e3 : W1.cell? ⟨wr.heap.size, 3, none⟩ = some (.int .i64 f3) := by rw [hW1]; simp
      have hz1 : wr.heap.size < W1.heap.size := by rw [hW1]; simp
      have hbw := hb.trans (hb1.mono hb.size)
      have HG : Hid (Calls Tryz.prog 99 #[.agg #[.int .i64 f0, .int .i64 f1, .string f2, .int .i64 f3]] W1.drew fun e w' => e = .returned (.bool (lineB ⟨f0, f1, f2, f3⟩)) ∧ Below W1.heap.size W1.drew w') := validLine_calls ⟨f0, f1, f2, f3⟩ W1.drew (HTM.out.below hbw.drew (Nat.le_refl _)) (hsx _ (List.mem_of_getElem? hx.out))
      have HST := hide (stepL_at hx.out)
      rcases b_cases (lineB ⟨f0, f1, f2, f3⟩) with hg | hg
      · have HN := hide (log_bad hx.out (.inl hg))
        rw [hg] at HG
        clear hg
        go_wp2
        rw [← hW1]
        clear hW1 hc0 hc1 hc2 hc3
        refine wp_region_held_drew (S := fun w' => w'.cell? ⟨wr.heap.size, 0, none⟩ = some (.int .i64 f0) ∧ w'.cell? ⟨wr.heap.size, 1, none⟩ = some (.int .i64 f1) ∧ w'.cell? ⟨wr.heap.size, 2, none⟩ = some (.string f2) ∧ w'.cell? ⟨wr.heap.size, 3, none⟩ = some (.int .i64 f3)) (by kernel_rfl) ⟨e0, e1, e2, e3⟩ (fun hHeld => ?_)
        refine takeH 0 12 (.agg #[.int .i64 f0, .int .i64 f1, .string f2, .int .i64 f3]) ⟨_, rfl, rfl, rfl, ?_⟩ (by kernel_rfl) (by kernel_rfl) (by kernel_rfl) (fun _ _ _ h => h) hHeld ?_
        · intro w hSw; (try dsimp only at hSw); go_simp <;> first | exact IntWalk.i64_in _ (by omega) | (intro hq; omega)
        try simp only [Act.put, List.setIfInBounds_toArray, List.set_cons_zero, List.set_cons_succ]
        refine wpAnyH_ready (rs := [1]) (by kernel_rfl) (by simp) ?_
        refine AllReadyH.cons rfl (fun K hK => ?_) AllReadyH.nil
        go_simp
        go_at_call 99; refine HG.out.mono ?_; rintro e w3 ⟨rfl, hb3⟩
        try go_wp2_with fail
        refine hK.out _ _ ⟨(hb3.cell (p := ⟨wr.heap.size, 0, none⟩) hz1).trans e0, (hb3.cell (p := ⟨wr.heap.size, 1, none⟩) hz1).trans e1, (hb3.cell (p := ⟨wr.heap.size, 2, none⟩) hz1).trans e2, (hb3.cell (p := ⟨wr.heap.size, 3, none⟩) hz1).trans e3⟩ (fun hHeld => ?_)
        clear hK K
        try simp only [Act.put, List.setIfInBounds_toArray, List.set_cons_zero, List.set_cons_succ]
        refine takeH 2 14 (.bool true) ⟨_, rfl, rfl, rfl, ?_⟩ (by kernel_rfl) (by kernel_rfl) (by kernel_rfl) (fun _ _ _ h => h) hHeld ?_
        · intro w hSw; (try dsimp only at hSw); go_simp <;> first | exact IntWalk.i64_in _ (by omega) | (intro hq; omega)
        try simp only [Act.put, List.setIfInBounds_toArray, List.set_cons_zero, List.set_cons_succ]
        refine takeH 3 15 (.bool true) ⟨_, rfl, rfl, rfl, ?_⟩ (by kernel_rfl) (by kernel_rfl) (by kernel_rfl) (fun _ _ _ h => h) hHeld ?_
        · intro w hSw; (try dsimp only at hSw); go_simp <;> first | exact IntWalk.i64_in _ (by omega) | (intro hq; omega)
        try simp only [Act.put, List.setIfInBounds_toArray, List.set_cons_zero, List.set_cons_succ]
        refine skipH 4 16 ⟨_, rfl, rfl, rfl⟩ (by kernel_rfl) (by kernel_rfl) (by kernel_rfl) (fun _ _ _ h => h) hHeld ?_
        try simp only [Act.put, List.setIfInBounds_toArray, List.set_cons_zero, List.set_cons_succ]
        refine skipH 5 17 ⟨_, rfl, rfl, rfl⟩ (by kernel_rfl) (by kernel_rfl) (by kernel_rfl) (fun _ _ _ h => h) hHeld ?_
        try simp only [Act.put, List.setIfInBounds_toArray, List.set_cons_zero, List.set_cons_succ]
        refine skipH 6 18 ⟨_, rfl, rfl, rfl⟩ (by kernel_rfl) (by kernel_rfl) (by kernel_rfl) (fun _ _ _ h => h) hHeld ?_
        try simp only [Act.put, List.setIfInBounds_toArray, List.set_cons_zero, List.set_cons_succ]
        refine skipH 7 19 ⟨_, rfl, rfl, rfl⟩ (by kernel_rfl) (by kernel_rfl) (by kernel_rfl) (fun _ _ _ h => h) hHeld ?_
        try simp only [Act.put, List.setIfInBounds_toArray, List.set_cons_zero, List.set_cons_succ]
        refine skipH 8 20 ⟨_, rfl, rfl, rfl⟩ (by kernel_rfl) (by kernel_rfl) (by kernel_rfl) (fun _ _ _ h => h) hHeld ?_
        try simp only [Act.put, List.setIfInBounds_toArray, List.set_cons_zero, List.set_cons_succ]
        refine skipH 9 21 ⟨_, rfl, rfl, rfl⟩ (by kernel_rfl) (by kernel_rfl) (by kernel_rfl) (fun _ _ _ h => h) hHeld ?_
        try simp only [Act.put, List.setIfInBounds_toArray, List.set_cons_zero, List.set_cons_succ]
        refine skipH 10 22 ⟨_, rfl, rfl, rfl⟩ (by kernel_rfl) (by kernel_rfl) (by kernel_rfl) (fun _ _ _ h => h) hHeld ?_
        try simp only [Act.put, List.setIfInBounds_toArray, List.set_cons_zero, List.set_cons_succ]
        refine skipH 11 23 ⟨_, rfl, rfl, rfl⟩ (by kernel_rfl) (by kernel_rfl) (by kernel_rfl) (fun _ _ _ h => h) hHeld ?_
        try simp only [Act.put, List.setIfInBounds_toArray, List.set_cons_zero, List.set_cons_succ]
        refine skipH 12 24 ⟨_, rfl, rfl, rfl⟩ (by kernel_rfl) (by kernel_rfl) (by kernel_rfl) (fun _ _ _ h => h) hHeld ?_
        try simp only [Act.put, List.setIfInBounds_toArray, List.set_cons_zero, List.set_cons_succ]
        refine skipH 13 25 ⟨_, rfl, rfl, rfl⟩ (by kernel_rfl) (by kernel_rfl) (by kernel_rfl) (fun _ _ _ h => h) hHeld ?_
        try simp only [Act.put, List.setIfInBounds_toArray, List.set_cons_zero, List.set_cons_succ]
        refine skipH 14 26 ⟨_, rfl, rfl, rfl⟩ (by kernel_rfl) (by kernel_rfl) (by kernel_rfl) (fun _ _ _ h => h) hHeld ?_
        try simp only [Act.put, List.setIfInBounds_toArray, List.set_cons_zero, List.set_cons_succ]
        refine takeH 15 27 (.bool true) ⟨_, rfl, rfl, rfl, ?_⟩ (by kernel_rfl) (by kernel_rfl) (by kernel_rfl) (fun _ _ _ h => h) hHeld ?_
        · intro w hSw; (try dsimp only at hSw); go_simp <;> first | exact IntWalk.i64_in _ (by omega) | (intro hq; omega)
        try simp only [Act.put, List.setIfInBounds_toArray, List.set_cons_zero, List.set_cons_succ]
        refine wpAnyH_done (by kernel_rfl) ?_ _
        go_wp2
        go_ret
        exact ⟨ret_bool HN.out.symm, hbw.drew.trans (hb3.mono hbw.size)⟩
      rw [hg] at HG HST
      rw [Bool.true_and] at HST
      clear hg
      by_cases hk0 : K = 0
      · subst hk0
        have hc0' : wr.cell? ⟨b, off, none⟩ = some (.int .i64 f0) := by simpa using hc0
        have hc1' : wr.cell? ⟨b, off + 1, none⟩ = some (.int .i64 f1) := by simpa using hc1
        have hc2' : wr.cell? ⟨b, off + 2, none⟩ = some (.string f2) := by simpa using hc2
        have hc3' : wr.cell? ⟨b, off + 3, none⟩ = some (.int .i64 f3) := by simpa using hc3
        go_wp2
        rw [← hW1]
        clear hW1 hc0 hc1 hc2 hc3 hc0' hc1' hc2' hc3'
        refine wp_region_held_drew (S := fun w' => w'.cell? ⟨wr.heap.size, 0, none⟩ = some (.int .i64 f0) ∧ w'.cell? ⟨wr.heap.size, 1, none⟩ = some (.int .i64 f1) ∧ w'.cell? ⟨wr.heap.size, 2, none⟩ = some (.string f2) ∧ w'.cell? ⟨wr.heap.size, 3, none⟩ = some (.int .i64 f3)) (by kernel_rfl) ⟨e0, e1, e2, e3⟩ (fun hHeld => ?_)
        refine takeH 0 12 (.agg #[.int .i64 f0, .int .i64 f1, .string f2, .int .i64 f3]) ⟨_, rfl, rfl, rfl, ?_⟩ (by kernel_rfl) (by kernel_rfl) (by kernel_rfl) (fun _ _ _ h => h) hHeld ?_
        · intro w hSw; (try dsimp only at hSw); go_simp <;> first | exact IntWalk.i64_in _ (by omega) | (intro hq; omega)
        try simp only [Act.put, List.setIfInBounds_toArray, List.set_cons_zero, List.set_cons_succ]
        refine wpAnyH_ready (rs := [1]) (by kernel_rfl) (by simp) ?_
        refine AllReadyH.cons rfl (fun K hK => ?_) AllReadyH.nil
        go_simp
        go_at_call 99; refine HG.out.mono ?_; rintro e w3 ⟨rfl, hb3⟩
        try go_wp2_with fail
        refine hK.out _ _ ⟨(hb3.cell (p := ⟨wr.heap.size, 0, none⟩) hz1).trans e0, (hb3.cell (p := ⟨wr.heap.size, 1, none⟩) hz1).trans e1, (hb3.cell (p := ⟨wr.heap.size, 2, none⟩) hz1).trans e2, (hb3.cell (p := ⟨wr.heap.size, 3, none⟩) hz1).trans e3⟩ (fun hHeld => ?_)
        clear hK K
        try simp only [Act.put, List.setIfInBounds_toArray, List.set_cons_zero, List.set_cons_succ]
        refine takeH 2 14 (.bool false) ⟨_, rfl, rfl, rfl, ?_⟩ (by kernel_rfl) (by kernel_rfl) (by kernel_rfl) (fun _ _ _ h => h) hHeld ?_
        · intro w hSw; (try dsimp only at hSw); go_simp <;> first | exact IntWalk.i64_in _ (by omega) | (intro hq; omega)
        try simp only [Act.put, List.setIfInBounds_toArray, List.set_cons_zero, List.set_cons_succ]
        refine takeH 3 15 (.bool false) ⟨_, rfl, rfl, rfl, ?_⟩ (by kernel_rfl) (by kernel_rfl) (by kernel_rfl) (fun _ _ _ h => h) hHeld ?_
        · intro w hSw; (try dsimp only at hSw); go_simp <;> first | exact IntWalk.i64_in _ (by omega) | (intro hq; omega)
        try simp only [Act.put, List.setIfInBounds_toArray, List.set_cons_zero, List.set_cons_succ]
        refine takeH 4 16 (.int .i64 ((0 : Nat) : Int)) ⟨_, rfl, rfl, rfl, ?_⟩ (by kernel_rfl) (by kernel_rfl) (by kernel_rfl) (fun _ _ _ h => h) hHeld ?_
        · intro w hSw; (try dsimp only at hSw); go_simp <;> first | exact IntWalk.i64_in _ (by omega) | (intro hq; omega)
        try simp only [Act.put, List.setIfInBounds_toArray, List.set_cons_zero, List.set_cons_succ]
        refine takeH 5 17 (.bool false) ⟨_, rfl, rfl, rfl, ?_⟩ (by kernel_rfl) (by kernel_rfl) (by kernel_rfl) (fun _ _ _ h => h) hHeld ?_
        · intro w hSw; (try dsimp only at hSw); go_simp <;> first | exact IntWalk.i64_in _ (by omega) | (intro hq; omega)
        try simp only [Act.put, List.setIfInBounds_toArray, List.set_cons_zero, List.set_cons_succ]
        refine takeH 6 18 (.bool false) ⟨_, rfl, rfl, rfl, ?_⟩ (by kernel_rfl) (by kernel_rfl) (by kernel_rfl) (fun _ _ _ h => h) hHeld ?_
        · intro w hSw; (try dsimp only at hSw); go_simp <;> first | exact IntWalk.i64_in _ (by omega) | (intro hq; omega)
        try simp only [Act.put, List.setIfInBounds_toArray, List.set_cons_zero, List.set_cons_succ]
        refine skipH 7 19 ⟨_, rfl, rfl, rfl⟩ (by kernel_rfl) (by kernel_rfl) (by kernel_rfl) (fun _ _ _ h => h) hHeld ?_
        try simp only [Act.put, List.setIfInBounds_toArray, List.set_cons_zero, List.set_cons_succ]
        refine skipH 8 20 ⟨_, rfl, rfl, rfl⟩ (by kernel_rfl) (by kernel_rfl) (by kernel_rfl) (fun _ _ _ h => h) hHeld ?_
        try simp only [Act.put, List.setIfInBounds_toArray, List.set_cons_zero, List.set_cons_succ]
        refine skipH 9 21 ⟨_, rfl, rfl, rfl⟩ (by kernel_rfl) (by kernel_rfl) (by kernel_rfl) (fun _ _ _ h => h) hHeld ?_
        try simp only [Act.put, List.setIfInBounds_toArray, List.set_cons_zero, List.set_cons_succ]
        refine skipH 10 22 ⟨_, rfl, rfl, rfl⟩ (by kernel_rfl) (by kernel_rfl) (by kernel_rfl) (fun _ _ _ h => h) hHeld ?_
        try simp only [Act.put, List.setIfInBounds_toArray, List.set_cons_zero, List.set_cons_succ]
        refine skipH 11 23 ⟨_, rfl, rfl, rfl⟩ (by kernel_rfl) (by kernel_rfl) (by kernel_rfl) (fun _ _ _ h => h) hHeld ?_
        try simp only [Act.put, List.setIfInBounds_toArray, List.set_cons_zero, List.set_cons_succ]
        refine skipH 12 24 ⟨_, rfl, rfl, rfl⟩ (by kernel_rfl) (by kernel_rfl) (by kernel_rfl) (fun _ _ _ h => h) hHeld ?_
        try simp only [Act.put, List.setIfInBounds_toArray, List.set_cons_zero, List.set_cons_succ]
        refine skipH 13 25 ⟨_, rfl, rfl, rfl⟩ (by kernel_rfl) (by kernel_rfl) (by kernel_rfl) (fun _ _ _ h => h) hHeld ?_
        try simp only [Act.put, List.setIfInBounds_toArray, List.set_cons_zero, List.set_cons_succ]
        refine takeH 14 26 (.bool false) ⟨_, rfl, rfl, rfl, ?_⟩ (by kernel_rfl) (by kernel_rfl) (by kernel_rfl) (fun _ _ _ h => h) hHeld ?_
        · intro w hSw; (try dsimp only at hSw); go_simp <;> first | exact IntWalk.i64_in _ (by omega) | (intro hq; omega)
        try simp only [Act.put, List.setIfInBounds_toArray, List.set_cons_zero, List.set_cons_succ]
        refine takeH 15 27 (.bool false) ⟨_, rfl, rfl, rfl, ?_⟩ (by kernel_rfl) (by kernel_rfl) (by kernel_rfl) (fun _ _ _ h => h) hHeld ?_
        · intro w hSw; (try dsimp only at hSw); go_simp <;> first | exact IntWalk.i64_in _ (by omega) | (intro hq; omega)
        try simp only [Act.put, List.setIfInBounds_toArray, List.set_cons_zero, List.set_cons_succ]
        refine wpAnyH_done (by kernel_rfl) ?_ _
        go_wp2
        go_roundw
        case rel => exact ⟨1, by omega, by go_num, upto_snocL HC.out HST.out, hbw.drew.trans (hb3.mono hbw.size)⟩
        case measure => simp [intOf]; omega
      obtain ⟨m, rfl⟩ : ∃ m, K = m + 1 := ⟨K - 1, by omega⟩
      clear hk0
      obtain ⟨_, _, p0, p1, p2, p3, hA, _, hy, d0', d1', d2', d3', _, _, _, _, _, _, _⟩ := (h.below hb (Nat.le_refl _)).atLine (show m < n by omega)
      obtain ⟨rfl, rfl⟩ : b = _ ∧ off = _ := by injection hA with hA; injection hA; exact ⟨‹_›, ‹_›⟩
      clear hA
      have hbW : b < W1.heap.size := Nat.lt_of_lt_of_le hbl hb1.size
      have d0 := (hb1.cell (p := ⟨b, off + m * 4, none⟩) hbl).trans d0'
      have d1 := (hb1.cell (p := ⟨b, off + m * 4 + 1, none⟩) hbl).trans d1'
      have d2 := (hb1.cell (p := ⟨b, off + m * 4 + 2, none⟩) hbl).trans d2'
      have d3 := (hb1.cell (p := ⟨b, off + m * 4 + 3, none⟩) hbl).trans d3'
      clear d0' d1' d2' d3'
      have hup := upL_at hy.out hx.out
      have HCG : Hid (∀ W, Calls Tryz.prog 93 #[.agg #[.int .i64 p0, .int .i64 p1, .string p2, .int .i64 p3], .agg #[.int .i64 f0, .int .i64 f1, .string f2, .int .i64 f3]] W fun e w' => e = .returned (.bool (laterB ⟨p0, p1, p2, p3⟩ ⟨f0, f1, f2, f3⟩)) ∧ Below W.heap.size W w') := fun W => isLater_calls ⟨p0, p1, p2, p3⟩ ⟨f0, f1, f2, f3⟩ W
      rcases b_cases (laterB ⟨p0, p1, p2, p3⟩ ⟨f0, f1, f2, f3⟩) with q | q
      · rw [q] at HCG hup
        have HN := hide (upto_snocL HC.out (HST.out.trans hup))
        clear q hup
        go_wp2
        rw [← hW1]
        clear hW1 hc0 hc1 hc2 hc3
        refine wp_region_held_drew (S := fun w' => w'.cell? ⟨wr.heap.size, 0, none⟩ = some (.int .i64 f0) ∧ w'.cell? ⟨wr.heap.size, 1, none⟩ = some (.int .i64 f1) ∧ w'.cell? ⟨wr.heap.size, 2, none⟩ = some (.string f2) ∧ w'.cell? ⟨wr.heap.size, 3, none⟩ = some (.int .i64 f3) ∧ w'.cell? ⟨b, off + m * 4, none⟩ = some (.int .i64 p0) ∧ w'.cell? ⟨b, off + m * 4 + 1, none⟩ = some (.int .i64 p1) ∧ w'.cell? ⟨b, off + m * 4 + 2, none⟩ = some (.string p2) ∧ w'.cell? ⟨b, off + m * 4 + 3, none⟩ = some (.int .i64 p3)) (by kernel_rfl) ⟨e0, e1, e2, e3, d0, d1, d2, d3⟩ (fun hHeld => ?_)
        refine takeH 0 12 (.agg #[.int .i64 f0, .int .i64 f1, .string f2, .int .i64 f3]) ⟨_, rfl, rfl, rfl, ?_⟩ (by kernel_rfl) (by kernel_rfl) (by kernel_rfl) (fun _ _ _ h => h) hHeld ?_
        · intro w hSw; (try dsimp only at hSw); go_simp <;> first | exact IntWalk.i64_in _ (by omega) | (intro hq; omega)
        try simp only [Act.put, List.setIfInBounds_toArray, List.set_cons_zero, List.set_cons_succ]
        refine wpAnyH_ready (rs := [1]) (by kernel_rfl) (by simp) ?_
        refine AllReadyH.cons rfl (fun K hK => ?_) AllReadyH.nil
        go_simp
        go_at_call 99; refine HG.out.mono ?_; rintro e w3 ⟨rfl, hb3⟩
        try go_wp2_with fail
        refine hK.out _ _ ⟨(hb3.cell (p := ⟨wr.heap.size, 0, none⟩) hz1).trans e0, (hb3.cell (p := ⟨wr.heap.size, 1, none⟩) hz1).trans e1, (hb3.cell (p := ⟨wr.heap.size, 2, none⟩) hz1).trans e2, (hb3.cell (p := ⟨wr.heap.size, 3, none⟩) hz1).trans e3, (hb3.cell (p := ⟨b, off + m * 4, none⟩) hbW).trans d0, (hb3.cell (p := ⟨b, off + m * 4 + 1, none⟩) hbW).trans d1, (hb3.cell (p := ⟨b, off + m * 4 + 2, none⟩) hbW).trans d2, (hb3.cell (p := ⟨b, off + m * 4 + 3, none⟩) hbW).trans d3⟩ (fun hHeld => ?_)
        clear hK K
        try simp only [Act.put, List.setIfInBounds_toArray, List.set_cons_zero, List.set_cons_succ]
        refine takeH 2 14 (.bool false) ⟨_, rfl, rfl, rfl, ?_⟩ (by kernel_rfl) (by kernel_rfl) (by kernel_rfl) (fun _ _ _ h => h) hHeld ?_
        · intro w hSw; (try dsimp only at hSw); go_simp <;> first | exact IntWalk.i64_in _ (by omega) | (intro hq; omega)
        try simp only [Act.put, List.setIfInBounds_toArray, List.set_cons_zero, List.set_cons_succ]
        refine takeH 3 15 (.bool false) ⟨_, rfl, rfl, rfl, ?_⟩ (by kernel_rfl) (by kernel_rfl) (by kernel_rfl) (fun _ _ _ h => h) hHeld ?_
        · intro w hSw; (try dsimp only at hSw); go_simp <;> first | exact IntWalk.i64_in _ (by omega) | (intro hq; omega)
        try simp only [Act.put, List.setIfInBounds_toArray, List.set_cons_zero, List.set_cons_succ]
        refine takeH 4 16 (.int .i64 ((m + 1 : Nat) : Int)) ⟨_, rfl, rfl, rfl, ?_⟩ (by kernel_rfl) (by kernel_rfl) (by kernel_rfl) (fun _ _ _ h => h) hHeld ?_
        · intro w hSw; (try dsimp only at hSw); go_simp <;> first | exact IntWalk.i64_in _ (by omega) | (intro hq; omega)
        try simp only [Act.put, List.setIfInBounds_toArray, List.set_cons_zero, List.set_cons_succ]
        refine takeH 5 17 (.bool true) ⟨_, rfl, rfl, rfl, ?_⟩ (by kernel_rfl) (by kernel_rfl) (by kernel_rfl) (fun _ _ _ h => h) hHeld ?_
        · intro w hSw; (try dsimp only at hSw); go_simp <;> first | exact IntWalk.i64_in _ (by omega) | (intro hq; omega)
        try simp only [Act.put, List.setIfInBounds_toArray, List.set_cons_zero, List.set_cons_succ]
        refine takeH 6 18 (.bool true) ⟨_, rfl, rfl, rfl, ?_⟩ (by kernel_rfl) (by kernel_rfl) (by kernel_rfl) (fun _ _ _ h => h) hHeld ?_
        · intro w hSw; (try dsimp only at hSw); go_simp <;> first | exact IntWalk.i64_in _ (by omega) | (intro hq; omega)
        try simp only [Act.put, List.setIfInBounds_toArray, List.set_cons_zero, List.set_cons_succ]
        refine takeH 7 19 (.slice (some ⟨b, off, none⟩) n c) ⟨_, rfl, rfl, rfl, ?_⟩ (by kernel_rfl) (by kernel_rfl) (by kernel_rfl) (fun _ _ _ h => h) hHeld ?_
        · intro w hSw; (try dsimp only at hSw); go_simp <;> first | exact IntWalk.i64_in _ (by omega) | (intro hq; omega)
        try simp only [Act.put, List.setIfInBounds_toArray, List.set_cons_zero, List.set_cons_succ]
        refine takeH 8 20 (.int .i64 ((m + 1 : Nat) : Int)) ⟨_, rfl, rfl, rfl, ?_⟩ (by kernel_rfl) (by kernel_rfl) (by kernel_rfl) (fun _ _ _ h => h) hHeld ?_
        · intro w hSw; (try dsimp only at hSw); go_simp <;> first | exact IntWalk.i64_in _ (by omega) | (intro hq; omega)
        try simp only [Act.put, List.setIfInBounds_toArray, List.set_cons_zero, List.set_cons_succ]
        refine takeH 9 21 (.int .i64 (m : Int)) ⟨_, rfl, rfl, rfl, ?_⟩ (by kernel_rfl) (by kernel_rfl) (by kernel_rfl) (fun _ _ _ h => h) hHeld ?_
        · intro w hSw; (try dsimp only at hSw); go_simp <;> first | exact IntWalk.i64_in _ (by omega) | (intro hq; omega)
        try simp only [Act.put, List.setIfInBounds_toArray, List.set_cons_zero, List.set_cons_succ]
        refine takeH 10 22 (.pointer (some ⟨b, off + m * 4, none⟩)) ⟨_, rfl, rfl, rfl, ?_⟩ (by kernel_rfl) (by kernel_rfl) (by kernel_rfl) (fun _ _ _ h => h) hHeld ?_
        · intro w hSw; (try dsimp only at hSw); go_simp <;> first | exact IntWalk.i64_in _ (by omega) | (intro hq; omega)
        try simp only [Act.put, List.setIfInBounds_toArray, List.set_cons_zero, List.set_cons_succ]
        refine takeH 11 23 (.agg #[.int .i64 p0, .int .i64 p1, .string p2, .int .i64 p3]) ⟨_, rfl, rfl, rfl, ?_⟩ (by kernel_rfl) (by kernel_rfl) (by kernel_rfl) (fun _ _ _ h => h) hHeld ?_
        · intro w hSw; (try dsimp only at hSw); go_simp <;> first | exact IntWalk.i64_in _ (by omega) | (intro hq; omega)
        try simp only [Act.put, List.setIfInBounds_toArray, List.set_cons_zero, List.set_cons_succ]
        refine takeH 12 24 (.agg #[.int .i64 f0, .int .i64 f1, .string f2, .int .i64 f3]) ⟨_, rfl, rfl, rfl, ?_⟩ (by kernel_rfl) (by kernel_rfl) (by kernel_rfl) (fun _ _ _ h => h) hHeld ?_
        · intro w hSw; (try dsimp only at hSw); go_simp <;> first | exact IntWalk.i64_in _ (by omega) | (intro hq; omega)
        try simp only [Act.put, List.setIfInBounds_toArray, List.set_cons_zero, List.set_cons_succ]
        refine wpAnyH_ready (rs := [13]) (by kernel_rfl) (by simp) ?_
        refine AllReadyH.cons rfl (fun K hK => ?_) AllReadyH.nil
        go_simp
        go_at_call 93; refine (HCG.out _).mono ?_; rintro e w4 ⟨rfl, hb4⟩
        try go_wp2_with fail
        refine hK.out _ _ ⟨(hb4.cell (p := ⟨wr.heap.size, 0, none⟩) (Nat.lt_of_lt_of_le hz1 hb3.size)).trans ((hb3.cell (p := ⟨wr.heap.size, 0, none⟩) hz1).trans e0), (hb4.cell (p := ⟨wr.heap.size, 1, none⟩) (Nat.lt_of_lt_of_le hz1 hb3.size)).trans ((hb3.cell (p := ⟨wr.heap.size, 1, none⟩) hz1).trans e1), (hb4.cell (p := ⟨wr.heap.size, 2, none⟩) (Nat.lt_of_lt_of_le hz1 hb3.size)).trans ((hb3.cell (p := ⟨wr.heap.size, 2, none⟩) hz1).trans e2), (hb4.cell (p := ⟨wr.heap.size, 3, none⟩) (Nat.lt_of_lt_of_le hz1 hb3.size)).trans ((hb3.cell (p := ⟨wr.heap.size, 3, none⟩) hz1).trans e3), (hb4.cell (p := ⟨b, off + m * 4, none⟩) (Nat.lt_of_lt_of_le hbW hb3.size)).trans ((hb3.cell (p := ⟨b, off + m * 4, none⟩) hbW).trans d0), (hb4.cell (p := ⟨b, off + m * 4 + 1, none⟩) (Nat.lt_of_lt_of_le hbW hb3.size)).trans ((hb3.cell (p := ⟨b, off + m * 4 + 1, none⟩) hbW).trans d1), (hb4.cell (p := ⟨b, off + m * 4 + 2, none⟩) (Nat.lt_of_lt_of_le hbW hb3.size)).trans ((hb3.cell (p := ⟨b, off + m * 4 + 2, none⟩) hbW).trans d2), (hb4.cell (p := ⟨b, off + m * 4 + 3, none⟩) (Nat.lt_of_lt_of_le hbW hb3.size)).trans ((hb3.cell (p := ⟨b, off + m * 4 + 3, none⟩) hbW).trans d3)⟩ (fun hHeld => ?_)
        clear hK K
        try simp only [Act.put, List.setIfInBounds_toArray, List.set_cons_zero, List.set_cons_succ]
        refine takeH 14 26 (.bool false) ⟨_, rfl, rfl, rfl, ?_⟩ (by kernel_rfl) (by kernel_rfl) (by kernel_rfl) (fun _ _ _ h => h) hHeld ?_
        · intro w hSw; (try dsimp only at hSw); go_simp <;> first | exact IntWalk.i64_in _ (by omega) | (intro hq; omega)
        try simp only [Act.put, List.setIfInBounds_toArray, List.set_cons_zero, List.set_cons_succ]
        refine takeH 15 27 (.bool false) ⟨_, rfl, rfl, rfl, ?_⟩ (by kernel_rfl) (by kernel_rfl) (by kernel_rfl) (fun _ _ _ h => h) hHeld ?_
        · intro w hSw; (try dsimp only at hSw); go_simp <;> first | exact IntWalk.i64_in _ (by omega) | (intro hq; omega)
        try simp only [Act.put, List.setIfInBounds_toArray, List.set_cons_zero, List.set_cons_succ]
        refine wpAnyH_done (by kernel_rfl) ?_ _
        have hbx := (hbw.drew.trans (hb3.mono hbw.size)).trans (hb4.mono (Nat.le_trans hbw.size hb3.size))
        go_wp2
        go_roundw
        case rel => exact ⟨m + 1 + 1, by omega, by go_num, HN, hbx⟩
        case measure => simp [intOf]; omega
      · rw [q] at HCG hup
        have HN := hide (log_bad hx.out (.inr hup))
        clear q hup
        go_wp2
        rw [← hW1]
        clear hW1 hc0 hc1 hc2 hc3
        refine wp_region_held_drew (S := fun w' => w'.cell? ⟨wr.heap.size, 0, none⟩ = some (.int .i64 f0) ∧ w'.cell? ⟨wr.heap.size, 1, none⟩ = some (.int .i64 f1) ∧ w'.cell? ⟨wr.heap.size, 2, none⟩ = some (.string f2) ∧ w'.cell? ⟨wr.heap.size, 3, none⟩ = some (.int .i64 f3) ∧ w'.cell? ⟨b, off + m * 4, none⟩ = some (.int .i64 p0) ∧ w'.cell? ⟨b, off + m * 4 + 1, none⟩ = some (.int .i64 p1) ∧ w'.cell? ⟨b, off + m * 4 + 2, none⟩ = some (.string p2) ∧ w'.cell? ⟨b, off + m * 4 + 3, none⟩ = some (.int .i64 p3)) (by kernel_rfl) ⟨e0, e1, e2, e3, d0, d1, d2, d3⟩ (fun hHeld => ?_)
        refine takeH 0 12 (.agg #[.int .i64 f0, .int .i64 f1, .string f2, .int .i64 f3]) ⟨_, rfl, rfl, rfl, ?_⟩ (by kernel_rfl) (by kernel_rfl) (by kernel_rfl) (fun _ _ _ h => h) hHeld ?_
        · intro w hSw; (try dsimp only at hSw); go_simp <;> first | exact IntWalk.i64_in _ (by omega) | (intro hq; omega)
        try simp only [Act.put, List.setIfInBounds_toArray, List.set_cons_zero, List.set_cons_succ]
        refine wpAnyH_ready (rs := [1]) (by kernel_rfl) (by simp) ?_
        refine AllReadyH.cons rfl (fun K hK => ?_) AllReadyH.nil
        go_simp
        go_at_call 99; refine HG.out.mono ?_; rintro e w3 ⟨rfl, hb3⟩
        try go_wp2_with fail
        refine hK.out _ _ ⟨(hb3.cell (p := ⟨wr.heap.size, 0, none⟩) hz1).trans e0, (hb3.cell (p := ⟨wr.heap.size, 1, none⟩) hz1).trans e1, (hb3.cell (p := ⟨wr.heap.size, 2, none⟩) hz1).trans e2, (hb3.cell (p := ⟨wr.heap.size, 3, none⟩) hz1).trans e3, (hb3.cell (p := ⟨b, off + m * 4, none⟩) hbW).trans d0, (hb3.cell (p := ⟨b, off + m * 4 + 1, none⟩) hbW).trans d1, (hb3.cell (p := ⟨b, off + m * 4 + 2, none⟩) hbW).trans d2, (hb3.cell (p := ⟨b, off + m * 4 + 3, none⟩) hbW).trans d3⟩ (fun hHeld => ?_)
        clear hK K
        try simp only [Act.put, List.setIfInBounds_toArray, List.set_cons_zero, List.set_cons_succ]
        refine takeH 2 14 (.bool false) ⟨_, rfl, rfl, rfl, ?_⟩ (by kernel_rfl) (by kernel_rfl) (by kernel_rfl) (fun _ _ _ h => h) hHeld ?_
        · intro w hSw; (try dsimp only at hSw); go_simp <;> first | exact IntWalk.i64_in _ (by omega) | (intro hq; omega)
        try simp only [Act.put, List.setIfInBounds_toArray, List.set_cons_zero, List.set_cons_succ]
        refine takeH 3 15 (.bool false) ⟨_, rfl, rfl, rfl, ?_⟩ (by kernel_rfl) (by kernel_rfl) (by kernel_rfl) (fun _ _ _ h => h) hHeld ?_
        · intro w hSw; (try dsimp only at hSw); go_simp <;> first | exact IntWalk.i64_in _ (by omega) | (intro hq; omega)
        try simp only [Act.put, List.setIfInBounds_toArray, List.set_cons_zero, List.set_cons_succ]
        refine takeH 4 16 (.int .i64 ((m + 1 : Nat) : Int)) ⟨_, rfl, rfl, rfl, ?_⟩ (by kernel_rfl) (by kernel_rfl) (by kernel_rfl) (fun _ _ _ h => h) hHeld ?_
        · intro w hSw; (try dsimp only at hSw); go_simp <;> first | exact IntWalk.i64_in _ (by omega) | (intro hq; omega)
        try simp only [Act.put, List.setIfInBounds_toArray, List.set_cons_zero, List.set_cons_succ]
        refine takeH 5 17 (.bool true) ⟨_, rfl, rfl, rfl, ?_⟩ (by kernel_rfl) (by kernel_rfl) (by kernel_rfl) (fun _ _ _ h => h) hHeld ?_
        · intro w hSw; (try dsimp only at hSw); go_simp <;> first | exact IntWalk.i64_in _ (by omega) | (intro hq; omega)
        try simp only [Act.put, List.setIfInBounds_toArray, List.set_cons_zero, List.set_cons_succ]
        refine takeH 6 18 (.bool true) ⟨_, rfl, rfl, rfl, ?_⟩ (by kernel_rfl) (by kernel_rfl) (by kernel_rfl) (fun _ _ _ h => h) hHeld ?_
        · intro w hSw; (try dsimp only at hSw); go_simp <;> first | exact IntWalk.i64_in _ (by omega) | (intro hq; omega)
        try simp only [Act.put, List.setIfInBounds_toArray, List.set_cons_zero, List.set_cons_succ]
        refine takeH 7 19 (.slice (some ⟨b, off, none⟩) n c) ⟨_, rfl, rfl, rfl, ?_⟩ (by kernel_rfl) (by kernel_rfl) (by kernel_rfl) (fun _ _ _ h => h) hHeld ?_
        · intro w hSw; (try dsimp only at hSw); go_simp <;> first | exact IntWalk.i64_in _ (by omega) | (intro hq; omega)
        try simp only [Act.put, List.setIfInBounds_toArray, List.set_cons_zero, List.set_cons_succ]
        refine takeH 8 20 (.int .i64 ((m + 1 : Nat) : Int)) ⟨_, rfl, rfl, rfl, ?_⟩ (by kernel_rfl) (by kernel_rfl) (by kernel_rfl) (fun _ _ _ h => h) hHeld ?_
        · intro w hSw; (try dsimp only at hSw); go_simp <;> first | exact IntWalk.i64_in _ (by omega) | (intro hq; omega)
        try simp only [Act.put, List.setIfInBounds_toArray, List.set_cons_zero, List.set_cons_succ]
        refine takeH 9 21 (.int .i64 (m : Int)) ⟨_, rfl, rfl, rfl, ?_⟩ (by kernel_rfl) (by kernel_rfl) (by kernel_rfl) (fun _ _ _ h => h) hHeld ?_
        · intro w hSw; (try dsimp only at hSw); go_simp <;> first | exact IntWalk.i64_in _ (by omega) | (intro hq; omega)
        try simp only [Act.put, List.setIfInBounds_toArray, List.set_cons_zero, List.set_cons_succ]
        refine takeH 10 22 (.pointer (some ⟨b, off + m * 4, none⟩)) ⟨_, rfl, rfl, rfl, ?_⟩ (by kernel_rfl) (by kernel_rfl) (by kernel_rfl) (fun _ _ _ h => h) hHeld ?_
        · intro w hSw; (try dsimp only at hSw); go_simp <;> first | exact IntWalk.i64_in _ (by omega) | (intro hq; omega)
        try simp only [Act.put, List.setIfInBounds_toArray, List.set_cons_zero, List.set_cons_succ]
        refine takeH 11 23 (.agg #[.int .i64 p0, .int .i64 p1, .string p2, .int .i64 p3]) ⟨_, rfl, rfl, rfl, ?_⟩ (by kernel_rfl) (by kernel_rfl) (by kernel_rfl) (fun _ _ _ h => h) hHeld ?_
        · intro w hSw; (try dsimp only at hSw); go_simp <;> first | exact IntWalk.i64_in _ (by omega) | (intro hq; omega)
        try simp only [Act.put, List.setIfInBounds_toArray, List.set_cons_zero, List.set_cons_succ]
        refine takeH 12 24 (.agg #[.int .i64 f0, .int .i64 f1, .string f2, .int .i64 f3]) ⟨_, rfl, rfl, rfl, ?_⟩ (by kernel_rfl) (by kernel_rfl) (by kernel_rfl) (fun _ _ _ h => h) hHeld ?_
        · intro w hSw; (try dsimp only at hSw); go_simp <;> first | exact IntWalk.i64_in _ (by omega) | (intro hq; omega)
        try simp only [Act.put, List.setIfInBounds_toArray, List.set_cons_zero, List.set_cons_succ]
        refine wpAnyH_ready (rs := [13]) (by kernel_rfl) (by simp) ?_
        refine AllReadyH.cons rfl (fun K hK => ?_) AllReadyH.nil
        go_simp
        go_at_call 93; refine (HCG.out _).mono ?_; rintro e w4 ⟨rfl, hb4⟩
        try go_wp2_with fail
        refine hK.out _ _ ⟨(hb4.cell (p := ⟨wr.heap.size, 0, none⟩) (Nat.lt_of_lt_of_le hz1 hb3.size)).trans ((hb3.cell (p := ⟨wr.heap.size, 0, none⟩) hz1).trans e0), (hb4.cell (p := ⟨wr.heap.size, 1, none⟩) (Nat.lt_of_lt_of_le hz1 hb3.size)).trans ((hb3.cell (p := ⟨wr.heap.size, 1, none⟩) hz1).trans e1), (hb4.cell (p := ⟨wr.heap.size, 2, none⟩) (Nat.lt_of_lt_of_le hz1 hb3.size)).trans ((hb3.cell (p := ⟨wr.heap.size, 2, none⟩) hz1).trans e2), (hb4.cell (p := ⟨wr.heap.size, 3, none⟩) (Nat.lt_of_lt_of_le hz1 hb3.size)).trans ((hb3.cell (p := ⟨wr.heap.size, 3, none⟩) hz1).trans e3), (hb4.cell (p := ⟨b, off + m * 4, none⟩) (Nat.lt_of_lt_of_le hbW hb3.size)).trans ((hb3.cell (p := ⟨b, off + m * 4, none⟩) hbW).trans d0), (hb4.cell (p := ⟨b, off + m * 4 + 1, none⟩) (Nat.lt_of_lt_of_le hbW hb3.size)).trans ((hb3.cell (p := ⟨b, off + m * 4 + 1, none⟩) hbW).trans d1), (hb4.cell (p := ⟨b, off + m * 4 + 2, none⟩) (Nat.lt_of_lt_of_le hbW hb3.size)).trans ((hb3.cell (p := ⟨b, off + m * 4 + 2, none⟩) hbW).trans d2), (hb4.cell (p := ⟨b, off + m * 4 + 3, none⟩) (Nat.lt_of_lt_of_le hbW hb3.size)).trans ((hb3.cell (p := ⟨b, off + m * 4 + 3, none⟩) hbW).trans d3)⟩ (fun hHeld => ?_)
        clear hK K
        try simp only [Act.put, List.setIfInBounds_toArray, List.set_cons_zero, List.set_cons_succ]
        refine takeH 14 26 (.bool true) ⟨_, rfl, rfl, rfl, ?_⟩ (by kernel_rfl) (by kernel_rfl) (by kernel_rfl) (fun _ _ _ h => h) hHeld ?_
        · intro w hSw; (try dsimp only at hSw); go_simp <;> first | exact IntWalk.i64_in _ (by omega) | (intro hq; omega)
        try simp only [Act.put, List.setIfInBounds_toArray, List.set_cons_zero, List.set_cons_succ]
        refine takeH 15 27 (.bool true) ⟨_, rfl, rfl, rfl, ?_⟩ (by kernel_rfl) (by kernel_rfl) (by kernel_rfl) (fun _ _ _ h => h) hHeld ?_
        · intro w hSw; (try dsimp only at hSw); go_simp <;> first | exact IntWalk.i64_in _ (by omega) | (intro hq; omega)
        try simp only [Act.put, List.setIfInBounds_toArray, List.set_cons_zero, List.set_cons_succ]
        refine wpAnyH_done (by kernel_rfl) ?_ _
        have hbx := (hbw.drew.trans (hb3.mono hbw.size)).trans (hb4.mono (Nat.le_trans hbw.size hb3.size))
        go_wp2
        go_ret
        exact ⟨ret_bool HN.out.symm, hbx⟩
    · have hKn : K = n := by omega
      have HN := hide (log_all HL.out (hKn ▸ HC.out))
      clear hKn
      go_wp2
      go_ret
      exact ⟨ret_bool HN.out.symm, hb⟩

set_option maxRecDepth 100000 in
set_option maxHeartbeats 8000000 in
theorem l25Lines_calls (A : Option Addr) (n c : Nat) (xs : List LineZ) (w : World) (h : RdK kLine w A n xs) (hn : n ≤ 1048576) (hsx : ∀ x ∈ xs, x.text.size ≤ 1048576) :
    Calls Tryz.prog 170 #[.slice A n c] w fun e w' => e = .returned (.bool (isLogB xs)) ∧ Below w.heap.size w w' := by
  have HL := hide h.2.1
  go_enter Tryz.func170, Tryz.ntmps170
  go_wp2
  go_loopw [3] (fun i wr => ∃ (K : Nat), K ≤ n ∧ i = .int .i64 K ∧ Hid (∀ j, j < K → stepL xs j = true) ∧ Below w.heap.size w wr) (fun i _ => n - (intOf i).toNat)
  case atStart => exact ⟨0, Nat.zero_le _, rfl, fun j hj => absurd hj (by omega), Below.refl _ _⟩
  case round =>
    obtain ⟨K, hK, rfl, HC, hb⟩ := hrel
    by_cases hlt : K < n
    · obtain ⟨b, off, f0, f1, f2, f3, rfl, hbl, hx, hc0, hc1, hc2, hc3, hs0, hs1, hs2, hs3, hs4, hs5, hs6⟩ := (h.below hb (Nat.le_refl _)).atLine hlt
      have HG : Hid (Calls Tryz.prog 213 #[.pointer (some ⟨b, off + K * 4, none⟩)] wr fun e w' => e = .returned (.bool (lineB ⟨f0, f1, f2, f3⟩)) ∧ Below wr.heap.size wr w') := l25One_calls ⟨f0, f1, f2, f3⟩ b (off + K * 4) wr (hsx _ (List.mem_of_getElem? hx.out)) hbl hc0 hc1 hc2 hc3
      have HST := hide (stepL_at hx.out)
      rcases b_cases (lineB ⟨f0, f1, f2, f3⟩) with hg | hg
      · have HN := hide (log_bad hx.out (.inl hg))
        rw [hg] at HG
        clear hg
        go_wp2_with fail
        refine HG.out.mono ?_
        rintro e w1 ⟨rfl, hb1⟩
        go_wp2
        go_ret
        exact ⟨ret_bool HN.out.symm, hb.trans (hb1.mono hb.size)⟩
      rw [hg] at HG HST
      rw [Bool.true_and] at HST
      clear hg
      by_cases hk0 : K = 0
      · subst hk0
        have HN := hide (upto_snocL HC.out HST.out)
        have HG0 : Hid (Calls Tryz.prog 213 #[.pointer (some ⟨b, off, none⟩)] wr fun e w' => e = .returned (.bool true) ∧ Below wr.heap.size wr w') := by
          have := HG.out
          rw [show off + 0 * 4 = off by omega] at this
          exact this
        go_wp2_with fail
        refine HG0.out.mono ?_
        rintro e w1 ⟨rfl, hb1⟩
        go_wp2
        go_quiet (fail)
        go_wp2
        go_roundw
        case rel => exact ⟨1, by omega, by go_num, HN, below_drewN (hb.trans (hb1.mono hb.size)) _⟩
        case measure => simp [intOf]; omega
      obtain ⟨m, rfl⟩ : ∃ m, K = m + 1 := ⟨K - 1, by omega⟩
      clear hk0
      obtain ⟨_, _, p0, p1, p2, p3, hA, _, hy, d0, d1, d2, d3, _, _, _, _, _, _, _⟩ := (h.below hb (Nat.le_refl _)).atLine (show m < n by omega)
      obtain ⟨rfl, rfl⟩ : b = _ ∧ off = _ := by injection hA with hA; injection hA; exact ⟨‹_›, ‹_›⟩
      clear hA
      have hup := upL_at hy.out hx.out
      have HZ : Hid (laterB ⟨p0, p1, p2, p3⟩ ⟨f0, f1, f2, f3⟩ = (decide (f0 < p0) || (decide (p0 = f0) && decide (f1 < p1)))) := rfl
      have hd : decide ((0 : Int) < ((m + 1 : Nat) : Int)) = true := decide_eq_true (by omega)

      go_wp2_with fail
      refine HG.out.mono ?_
      rintro e w1 ⟨rfl, hb1⟩
      have hbx := hb.trans (hb1.mono hb.size)
      have k0 := (hb1.cell (p := ⟨b, off + (m + 1) * 4, none⟩) hbl).trans hc0
      have k1 := (hb1.cell (p := ⟨b, off + (m + 1) * 4 + 1, none⟩) hbl).trans hc1
      have q0 := (hb1.cell (p := ⟨b, off + m * 4, none⟩) hbl).trans d0
      have q1 := (hb1.cell (p := ⟨b, off + m * 4 + 1, none⟩) hbl).trans d1
      clear hb1 hb hc0 hc1 hc2 hc3 d0 d1 d2 d3
      rcases b_cases (decide (f0 < p0)) with h1 | h1
      · rw [h1] at HZ
        rcases b_cases (decide (p0 = f0)) with h2 | h2
        · rw [h2] at HZ
          have h2' : (p0 == f0) = false := by simpa using h2
          have HN := hide (upto_snocL HC.out (HST.out.trans (hup.trans (by rw [HZ.out]; rfl))))
          clear h2 hup
          go_wp2
          go_quiet (fail)
          go_wp2
          go_roundw
          case rel => exact ⟨m + 1 + 1, by omega, by go_num, HN, below_drewN hbx _⟩
          case measure => simp [intOf]; omega
        · rw [h2] at HZ
          obtain rfl : p0 = f0 := by simpa using h2
          clear h2
          rcases b_cases (decide (f1 < p1)) with h3 | h3
          · rw [h3] at HZ
            have HN := hide (upto_snocL HC.out (HST.out.trans (hup.trans (by rw [HZ.out]; rfl))))
            clear hup
            go_wp2
            go_quiet (fail)
            go_wp2
            go_roundw
            case rel => exact ⟨m + 1 + 1, by omega, by go_num, HN, below_drewN hbx _⟩
            case measure => simp [intOf]; omega
          · rw [h3] at HZ
            have HN := hide (log_bad hx.out (.inr (hup.trans (by rw [HZ.out]; rfl))))
            clear hup
            go_wp2
            go_quiet (fail)
            go_wp2
            go_ret
            exact ⟨ret_bool HN.out.symm, below_drewN hbx _⟩
      · rw [h1] at HZ
        have HN := hide (log_bad hx.out (.inr (hup.trans (by rw [HZ.out]; rfl))))
        clear hup
        go_wp2
        go_quiet (fail)
        go_wp2
        go_ret
        exact ⟨ret_bool HN.out.symm, below_drewN hbx _⟩
    · have hKn : K = n := by omega
      have HN := hide (log_all HL.out (hKn ▸ HC.out))
      clear hKn
      go_wp2
      go_ret
      exact ⟨ret_bool HN.out.symm, hb⟩

end Go.Proofs.YtcclfmapbgdpdaaGreatDoor
