/- ValidGrants of the program and of the reference. Printed by gen_vg.py. -/
import Derived.Test.YtidhbpnibgegdaaOkG
import Derived.Test.YtidhbpnibgegdaaTake
namespace Go.Proofs.Ytidhbpnibgegdaa
open Go.RowKit
set_option linter.unusedVariables false

set_option maxRecDepth 100000 in
set_option maxHeartbeats 8000000 in
theorem implValidGrants_calls (A : Option Addr) (n c : Nat) (rs : List RoleZ) (A1 : Option Addr) (n1 c1 : Nat) (gs : List GrantZ) (w : World) (h : RdRz w A n rs) (h1 : RdK kGrant w A1 n1 gs) (hn : n ≤ 1048576) (hn1 : n1 ≤ 1048576) (hs : ShortR rs) :
    Calls Try.prog 28 #[.slice A n c, .slice A1 n1 c1] w fun e w' => e = .returned (.bool (grantsB rs gs)) ∧ Below w.heap.size w w' := by
  have HL := hide h1.2.1
  have HM := hide (implValidRoles_calls A n c rs w h hn hs)
  rcases b_cases (rolesB rs) with hr | hr
  · have HN := hide (grants_no (gs := gs) hr)
    rw [hr] at HM
    clear hr
    go_enter Try.func28, Try.ntmps28
    go_wp2_with fail
    refine HM.out.mono ?_
    rintro e w1 ⟨rfl, hb1⟩
    go_wp2
    go_ret
    exact ⟨ret_bool HN.out.symm, hb1⟩
  rw [hr] at HM
  have HR := hide hr
  clear hr
  go_enter Try.func28, Try.ntmps28
  go_wp2_with fail
  refine HM.out.mono ?_
  clear HM
  rintro e w1 ⟨rfl, hb1⟩
  go_wp2
  go_loopw [12] (fun i wr => ∃ (K : Nat), K ≤ n1 ∧ i = .int .i64 K ∧ Hid (∀ j, j < K → stepG rs gs j = true) ∧ Below w.heap.size w wr) (fun i _ => n1 - (intOf i).toNat)
  case atStart => exact ⟨0, Nat.zero_le _, rfl, fun j hj => absurd hj (by omega), hb1⟩
  case round =>
    clear hb1
    obtain ⟨K, hK, rfl, HC, hb⟩ := hrel
    by_cases hlt : K < n1
    · obtain ⟨b, off, f0, f1, f2, rfl, hbl, hx, hc0, hc1, hc2, hs0, hs1, hs2, hs3⟩ := (h1.below hb (Nat.le_refl _)).atGrant hlt
      have hb1 := (Below.refl wr.heap.size wr).alloc (Nat.le_refl _) (.cells #[.string f0, .string f1, .int .i64 f2] 49)
      obtain ⟨W1, hW1⟩ : ∃ W1, W1 = wr.alloc (.cells #[.string f0, .string f1, .int .i64 f2] 49) := ⟨_, rfl⟩
      rw [← hW1] at hb1
      have e0 : W1.cell? ⟨wr.heap.size, 0, none⟩ = some (.string f0) := by rw [hW1]; simp
      have e1 : W1.cell? ⟨wr.heap.size, 1, none⟩ = some (.string f1) := by rw [hW1]; simp
      have e2 : W1.cell? ⟨wr.heap.size, 2, none⟩ = some (.int .i64 f2) := by rw [hW1]; simp
      have hz1 : wr.heap.size < W1.heap.size := by rw [hW1]; simp
      have hbw := hb.trans (hb1.mono hb.size)
      have HG : Hid (Calls Try.prog 69 #[.slice A n c, .agg #[.string f0, .string f1, .int .i64 f2]] W1.drew fun e w' => e = .returned (.bool (grantB rs ⟨f0, f1, f2⟩)) ∧ Below W1.heap.size W1.drew w') := isGrant_calls A n c rs ⟨f0, f1, f2⟩ W1.drew (h.below hbw.drew (Nat.le_refl _)) hn ⟨hs0, hs1, hs2, hs3⟩
      have HST := hide (stepG_at (rs := rs) hx.out)
      rcases b_cases (grantB rs ⟨f0, f1, f2⟩) with hg | hg
      · have HN := hide (grants_bad (rs := rs) hx.out (.inl hg))
        rw [hg] at HG
        clear hg
        go_wp2
        rw [← hW1]
        clear hW1 hc0 hc1 hc2
        refine wp_region_held_drew (S := fun w' => w'.cell? ⟨wr.heap.size, 0, none⟩ = some (.string f0) ∧ w'.cell? ⟨wr.heap.size, 1, none⟩ = some (.string f1) ∧ w'.cell? ⟨wr.heap.size, 2, none⟩ = some (.int .i64 f2)) (by kernel_rfl) ⟨e0, e1, e2⟩ (fun hHeld => ?_)
        refine takeH 0 17 (.slice A n c) ⟨_, rfl, rfl, rfl, ?_⟩ (by kernel_rfl) (by kernel_rfl) (by kernel_rfl) (fun _ _ _ h => h) hHeld ?_
        · intro w hSw; (try dsimp only at hSw); go_simp <;> first | exact IntWalk.i64_in _ (by omega) | (intro hq; omega)
        try simp only [Act.put, List.setIfInBounds_toArray, List.set_cons_zero, List.set_cons_succ]
        refine takeH 1 18 (.agg #[.string f0, .string f1, .int .i64 f2]) ⟨_, rfl, rfl, rfl, ?_⟩ (by kernel_rfl) (by kernel_rfl) (by kernel_rfl) (fun _ _ _ h => h) hHeld ?_
        · intro w hSw; (try dsimp only at hSw); go_simp <;> first | exact IntWalk.i64_in _ (by omega) | (intro hq; omega)
        try simp only [Act.put, List.setIfInBounds_toArray, List.set_cons_zero, List.set_cons_succ]
        refine wpAnyH_ready (rs := [2]) (by kernel_rfl) (by simp) ?_
        refine AllReadyH.cons rfl (fun K hK => ?_) AllReadyH.nil
        go_simp
        go_at_call 69; refine HG.out.mono ?_; rintro e w3 ⟨rfl, hb3⟩
        try go_wp2_with fail
        refine hK.out _ _ ⟨(hb3.cell (p := ⟨wr.heap.size, 0, none⟩) hz1).trans e0, (hb3.cell (p := ⟨wr.heap.size, 1, none⟩) hz1).trans e1, (hb3.cell (p := ⟨wr.heap.size, 2, none⟩) hz1).trans e2⟩ (fun hHeld => ?_)
        clear hK K
        try simp only [Act.put, List.setIfInBounds_toArray, List.set_cons_zero, List.set_cons_succ]
        refine takeH 3 20 (.bool true) ⟨_, rfl, rfl, rfl, ?_⟩ (by kernel_rfl) (by kernel_rfl) (by kernel_rfl) (fun _ _ _ h => h) hHeld ?_
        · intro w hSw; (try dsimp only at hSw); go_simp <;> first | exact IntWalk.i64_in _ (by omega) | (intro hq; omega)
        try simp only [Act.put, List.setIfInBounds_toArray, List.set_cons_zero, List.set_cons_succ]
        refine takeH 4 21 (.bool true) ⟨_, rfl, rfl, rfl, ?_⟩ (by kernel_rfl) (by kernel_rfl) (by kernel_rfl) (fun _ _ _ h => h) hHeld ?_
        · intro w hSw; (try dsimp only at hSw); go_simp <;> first | exact IntWalk.i64_in _ (by omega) | (intro hq; omega)
        try simp only [Act.put, List.setIfInBounds_toArray, List.set_cons_zero, List.set_cons_succ]
        refine skipH 5 22 ⟨_, rfl, rfl, rfl⟩ (by kernel_rfl) (by kernel_rfl) (by kernel_rfl) (fun _ _ _ h => h) hHeld ?_
        try simp only [Act.put, List.setIfInBounds_toArray, List.set_cons_zero, List.set_cons_succ]
        refine skipH 6 23 ⟨_, rfl, rfl, rfl⟩ (by kernel_rfl) (by kernel_rfl) (by kernel_rfl) (fun _ _ _ h => h) hHeld ?_
        try simp only [Act.put, List.setIfInBounds_toArray, List.set_cons_zero, List.set_cons_succ]
        refine skipH 7 24 ⟨_, rfl, rfl, rfl⟩ (by kernel_rfl) (by kernel_rfl) (by kernel_rfl) (fun _ _ _ h => h) hHeld ?_
        try simp only [Act.put, List.setIfInBounds_toArray, List.set_cons_zero, List.set_cons_succ]
        refine skipH 8 25 ⟨_, rfl, rfl, rfl⟩ (by kernel_rfl) (by kernel_rfl) (by kernel_rfl) (fun _ _ _ h => h) hHeld ?_
        try simp only [Act.put, List.setIfInBounds_toArray, List.set_cons_zero, List.set_cons_succ]
        refine skipH 9 26 ⟨_, rfl, rfl, rfl⟩ (by kernel_rfl) (by kernel_rfl) (by kernel_rfl) (fun _ _ _ h => h) hHeld ?_
        try simp only [Act.put, List.setIfInBounds_toArray, List.set_cons_zero, List.set_cons_succ]
        refine skipH 10 27 ⟨_, rfl, rfl, rfl⟩ (by kernel_rfl) (by kernel_rfl) (by kernel_rfl) (fun _ _ _ h => h) hHeld ?_
        try simp only [Act.put, List.setIfInBounds_toArray, List.set_cons_zero, List.set_cons_succ]
        refine skipH 11 28 ⟨_, rfl, rfl, rfl⟩ (by kernel_rfl) (by kernel_rfl) (by kernel_rfl) (fun _ _ _ h => h) hHeld ?_
        try simp only [Act.put, List.setIfInBounds_toArray, List.set_cons_zero, List.set_cons_succ]
        refine skipH 12 29 ⟨_, rfl, rfl, rfl⟩ (by kernel_rfl) (by kernel_rfl) (by kernel_rfl) (fun _ _ _ h => h) hHeld ?_
        try simp only [Act.put, List.setIfInBounds_toArray, List.set_cons_zero, List.set_cons_succ]
        refine skipH 13 30 ⟨_, rfl, rfl, rfl⟩ (by kernel_rfl) (by kernel_rfl) (by kernel_rfl) (fun _ _ _ h => h) hHeld ?_
        try simp only [Act.put, List.setIfInBounds_toArray, List.set_cons_zero, List.set_cons_succ]
        refine skipH 14 31 ⟨_, rfl, rfl, rfl⟩ (by kernel_rfl) (by kernel_rfl) (by kernel_rfl) (fun _ _ _ h => h) hHeld ?_
        try simp only [Act.put, List.setIfInBounds_toArray, List.set_cons_zero, List.set_cons_succ]
        refine skipH 15 32 ⟨_, rfl, rfl, rfl⟩ (by kernel_rfl) (by kernel_rfl) (by kernel_rfl) (fun _ _ _ h => h) hHeld ?_
        try simp only [Act.put, List.setIfInBounds_toArray, List.set_cons_zero, List.set_cons_succ]
        refine skipH 16 33 ⟨_, rfl, rfl, rfl⟩ (by kernel_rfl) (by kernel_rfl) (by kernel_rfl) (fun _ _ _ h => h) hHeld ?_
        try simp only [Act.put, List.setIfInBounds_toArray, List.set_cons_zero, List.set_cons_succ]
        refine takeH 17 34 (.bool true) ⟨_, rfl, rfl, rfl, ?_⟩ (by kernel_rfl) (by kernel_rfl) (by kernel_rfl) (fun _ _ _ h => h) hHeld ?_
        · intro w hSw; (try dsimp only at hSw); go_simp <;> first | exact IntWalk.i64_in _ (by omega) | (intro hq; omega)
        try simp only [Act.put, List.setIfInBounds_toArray, List.set_cons_zero, List.set_cons_succ]
        refine wpAnyH_done (by kernel_rfl) ?_ _
        go_wp2
        go_ret
        exact ⟨ret_bool HN.out.symm, hbw.drew.trans (hb3.mono hbw.size)⟩
      rw [hg] at HG HST
      rw [Bool.true_and] at HST
      clear hg
      by_cases hk0 : K = 0
      · subst hk0
        have hc0' : wr.cell? ⟨b, off, none⟩ = some (.string f0) := by simpa using hc0
        have hc1' : wr.cell? ⟨b, off + 1, none⟩ = some (.string f1) := by simpa using hc1
        have hc2' : wr.cell? ⟨b, off + 2, none⟩ = some (.int .i64 f2) := by simpa using hc2
        go_wp2
        rw [← hW1]
        clear hW1 hc0 hc1 hc2 hc0' hc1' hc2'
        refine wp_region_held_drew (S := fun w' => w'.cell? ⟨wr.heap.size, 0, none⟩ = some (.string f0) ∧ w'.cell? ⟨wr.heap.size, 1, none⟩ = some (.string f1) ∧ w'.cell? ⟨wr.heap.size, 2, none⟩ = some (.int .i64 f2)) (by kernel_rfl) ⟨e0, e1, e2⟩ (fun hHeld => ?_)
        refine takeH 0 17 (.slice A n c) ⟨_, rfl, rfl, rfl, ?_⟩ (by kernel_rfl) (by kernel_rfl) (by kernel_rfl) (fun _ _ _ h => h) hHeld ?_
        · intro w hSw; (try dsimp only at hSw); go_simp <;> first | exact IntWalk.i64_in _ (by omega) | (intro hq; omega)
        try simp only [Act.put, List.setIfInBounds_toArray, List.set_cons_zero, List.set_cons_succ]
        refine takeH 1 18 (.agg #[.string f0, .string f1, .int .i64 f2]) ⟨_, rfl, rfl, rfl, ?_⟩ (by kernel_rfl) (by kernel_rfl) (by kernel_rfl) (fun _ _ _ h => h) hHeld ?_
        · intro w hSw; (try dsimp only at hSw); go_simp <;> first | exact IntWalk.i64_in _ (by omega) | (intro hq; omega)
        try simp only [Act.put, List.setIfInBounds_toArray, List.set_cons_zero, List.set_cons_succ]
        refine wpAnyH_ready (rs := [2]) (by kernel_rfl) (by simp) ?_
        refine AllReadyH.cons rfl (fun K hK => ?_) AllReadyH.nil
        go_simp
        go_at_call 69; refine HG.out.mono ?_; rintro e w3 ⟨rfl, hb3⟩
        try go_wp2_with fail
        refine hK.out _ _ ⟨(hb3.cell (p := ⟨wr.heap.size, 0, none⟩) hz1).trans e0, (hb3.cell (p := ⟨wr.heap.size, 1, none⟩) hz1).trans e1, (hb3.cell (p := ⟨wr.heap.size, 2, none⟩) hz1).trans e2⟩ (fun hHeld => ?_)
        clear hK K
        try simp only [Act.put, List.setIfInBounds_toArray, List.set_cons_zero, List.set_cons_succ]
        refine takeH 3 20 (.bool false) ⟨_, rfl, rfl, rfl, ?_⟩ (by kernel_rfl) (by kernel_rfl) (by kernel_rfl) (fun _ _ _ h => h) hHeld ?_
        · intro w hSw; (try dsimp only at hSw); go_simp <;> first | exact IntWalk.i64_in _ (by omega) | (intro hq; omega)
        try simp only [Act.put, List.setIfInBounds_toArray, List.set_cons_zero, List.set_cons_succ]
        refine takeH 4 21 (.bool false) ⟨_, rfl, rfl, rfl, ?_⟩ (by kernel_rfl) (by kernel_rfl) (by kernel_rfl) (fun _ _ _ h => h) hHeld ?_
        · intro w hSw; (try dsimp only at hSw); go_simp <;> first | exact IntWalk.i64_in _ (by omega) | (intro hq; omega)
        try simp only [Act.put, List.setIfInBounds_toArray, List.set_cons_zero, List.set_cons_succ]
        refine takeH 5 22 (.int .i64 ((0 : Nat) : Int)) ⟨_, rfl, rfl, rfl, ?_⟩ (by kernel_rfl) (by kernel_rfl) (by kernel_rfl) (fun _ _ _ h => h) hHeld ?_
        · intro w hSw; (try dsimp only at hSw); go_simp <;> first | exact IntWalk.i64_in _ (by omega) | (intro hq; omega)
        try simp only [Act.put, List.setIfInBounds_toArray, List.set_cons_zero, List.set_cons_succ]
        refine takeH 6 23 (.bool false) ⟨_, rfl, rfl, rfl, ?_⟩ (by kernel_rfl) (by kernel_rfl) (by kernel_rfl) (fun _ _ _ h => h) hHeld ?_
        · intro w hSw; (try dsimp only at hSw); go_simp <;> first | exact IntWalk.i64_in _ (by omega) | (intro hq; omega)
        try simp only [Act.put, List.setIfInBounds_toArray, List.set_cons_zero, List.set_cons_succ]
        refine takeH 7 24 (.bool false) ⟨_, rfl, rfl, rfl, ?_⟩ (by kernel_rfl) (by kernel_rfl) (by kernel_rfl) (fun _ _ _ h => h) hHeld ?_
        · intro w hSw; (try dsimp only at hSw); go_simp <;> first | exact IntWalk.i64_in _ (by omega) | (intro hq; omega)
        try simp only [Act.put, List.setIfInBounds_toArray, List.set_cons_zero, List.set_cons_succ]
        refine skipH 8 25 ⟨_, rfl, rfl, rfl⟩ (by kernel_rfl) (by kernel_rfl) (by kernel_rfl) (fun _ _ _ h => h) hHeld ?_
        try simp only [Act.put, List.setIfInBounds_toArray, List.set_cons_zero, List.set_cons_succ]
        refine skipH 9 26 ⟨_, rfl, rfl, rfl⟩ (by kernel_rfl) (by kernel_rfl) (by kernel_rfl) (fun _ _ _ h => h) hHeld ?_
        try simp only [Act.put, List.setIfInBounds_toArray, List.set_cons_zero, List.set_cons_succ]
        refine skipH 10 27 ⟨_, rfl, rfl, rfl⟩ (by kernel_rfl) (by kernel_rfl) (by kernel_rfl) (fun _ _ _ h => h) hHeld ?_
        try simp only [Act.put, List.setIfInBounds_toArray, List.set_cons_zero, List.set_cons_succ]
        refine skipH 11 28 ⟨_, rfl, rfl, rfl⟩ (by kernel_rfl) (by kernel_rfl) (by kernel_rfl) (fun _ _ _ h => h) hHeld ?_
        try simp only [Act.put, List.setIfInBounds_toArray, List.set_cons_zero, List.set_cons_succ]
        refine skipH 12 29 ⟨_, rfl, rfl, rfl⟩ (by kernel_rfl) (by kernel_rfl) (by kernel_rfl) (fun _ _ _ h => h) hHeld ?_
        try simp only [Act.put, List.setIfInBounds_toArray, List.set_cons_zero, List.set_cons_succ]
        refine skipH 13 30 ⟨_, rfl, rfl, rfl⟩ (by kernel_rfl) (by kernel_rfl) (by kernel_rfl) (fun _ _ _ h => h) hHeld ?_
        try simp only [Act.put, List.setIfInBounds_toArray, List.set_cons_zero, List.set_cons_succ]
        refine skipH 14 31 ⟨_, rfl, rfl, rfl⟩ (by kernel_rfl) (by kernel_rfl) (by kernel_rfl) (fun _ _ _ h => h) hHeld ?_
        try simp only [Act.put, List.setIfInBounds_toArray, List.set_cons_zero, List.set_cons_succ]
        refine skipH 15 32 ⟨_, rfl, rfl, rfl⟩ (by kernel_rfl) (by kernel_rfl) (by kernel_rfl) (fun _ _ _ h => h) hHeld ?_
        try simp only [Act.put, List.setIfInBounds_toArray, List.set_cons_zero, List.set_cons_succ]
        refine takeH 16 33 (.bool false) ⟨_, rfl, rfl, rfl, ?_⟩ (by kernel_rfl) (by kernel_rfl) (by kernel_rfl) (fun _ _ _ h => h) hHeld ?_
        · intro w hSw; (try dsimp only at hSw); go_simp <;> first | exact IntWalk.i64_in _ (by omega) | (intro hq; omega)
        try simp only [Act.put, List.setIfInBounds_toArray, List.set_cons_zero, List.set_cons_succ]
        refine takeH 17 34 (.bool false) ⟨_, rfl, rfl, rfl, ?_⟩ (by kernel_rfl) (by kernel_rfl) (by kernel_rfl) (fun _ _ _ h => h) hHeld ?_
        · intro w hSw; (try dsimp only at hSw); go_simp <;> first | exact IntWalk.i64_in _ (by omega) | (intro hq; omega)
        try simp only [Act.put, List.setIfInBounds_toArray, List.set_cons_zero, List.set_cons_succ]
        refine wpAnyH_done (by kernel_rfl) ?_ _
        go_wp2
        go_roundw
        case rel => exact ⟨1, by omega, by go_num, upto_snoc HC.out HST.out, hbw.drew.trans (hb3.mono hbw.size)⟩
        case measure => simp [intOf]; omega
      obtain ⟨m, rfl⟩ : ∃ m, K = m + 1 := ⟨K - 1, by omega⟩
      clear hk0
      obtain ⟨_, _, p0, p1, p2, hA, _, hy, d0', d1', d2', _, _, _, _⟩ := (h1.below hb (Nat.le_refl _)).atGrant (show m < n1 by omega)
      obtain ⟨rfl, rfl⟩ : b = _ ∧ off = _ := by injection hA with hA; injection hA; exact ⟨‹_›, ‹_›⟩
      clear hA
      have hbW : b < W1.heap.size := Nat.lt_of_lt_of_le hbl hb1.size
      have d0 := (hb1.cell (p := ⟨b, off + m * 3, none⟩) hbl).trans d0'
      have d1 := (hb1.cell (p := ⟨b, off + m * 3 + 1, none⟩) hbl).trans d1'
      have d2 := (hb1.cell (p := ⟨b, off + m * 3 + 2, none⟩) hbl).trans d2'
      clear d0' d1' d2'
      have hup := upG_at hy.out hx.out
      have HCG : Hid (∀ W, Calls Try.prog 70 #[.agg #[.string p0, .string p1, .int .i64 p2], .agg #[.string f0, .string f1, .int .i64 f2]] W fun e w' => e = .returned (.int .i64 (cmpG ⟨p0, p1, p2⟩ ⟨f0, f1, f2⟩)) ∧ Below W.heap.size W w') := fun W => compareGrants_calls ⟨p0, p1, p2⟩ ⟨f0, f1, f2⟩ W
      rcases cmpG_ways ⟨p0, p1, p2⟩ ⟨f0, f1, f2⟩ with ⟨q1, q2, q3, q4⟩ | ⟨q1, q2, q3, q4⟩ | ⟨q1, q2, q3, q4⟩
      · rw [q4] at HCG
        have HN := hide (upto_snoc HC.out (HST.out.trans (hup.trans q1)))
        clear q1 q2 q3 q4 hup
        go_wp2
        rw [← hW1]
        clear hW1 hc0 hc1 hc2
        refine wp_region_held_drew (S := fun w' => w'.cell? ⟨wr.heap.size, 0, none⟩ = some (.string f0) ∧ w'.cell? ⟨wr.heap.size, 1, none⟩ = some (.string f1) ∧ w'.cell? ⟨wr.heap.size, 2, none⟩ = some (.int .i64 f2) ∧ w'.cell? ⟨b, off + m * 3, none⟩ = some (.string p0) ∧ w'.cell? ⟨b, off + m * 3 + 1, none⟩ = some (.string p1) ∧ w'.cell? ⟨b, off + m * 3 + 2, none⟩ = some (.int .i64 p2)) (by kernel_rfl) ⟨e0, e1, e2, d0, d1, d2⟩ (fun hHeld => ?_)
        refine takeH 0 17 (.slice A n c) ⟨_, rfl, rfl, rfl, ?_⟩ (by kernel_rfl) (by kernel_rfl) (by kernel_rfl) (fun _ _ _ h => h) hHeld ?_
        · intro w hSw; (try dsimp only at hSw); go_simp <;> first | exact IntWalk.i64_in _ (by omega) | (intro hq; omega)
        try simp only [Act.put, List.setIfInBounds_toArray, List.set_cons_zero, List.set_cons_succ]
        refine takeH 1 18 (.agg #[.string f0, .string f1, .int .i64 f2]) ⟨_, rfl, rfl, rfl, ?_⟩ (by kernel_rfl) (by kernel_rfl) (by kernel_rfl) (fun _ _ _ h => h) hHeld ?_
        · intro w hSw; (try dsimp only at hSw); go_simp <;> first | exact IntWalk.i64_in _ (by omega) | (intro hq; omega)
        try simp only [Act.put, List.setIfInBounds_toArray, List.set_cons_zero, List.set_cons_succ]
        refine wpAnyH_ready (rs := [2]) (by kernel_rfl) (by simp) ?_
        refine AllReadyH.cons rfl (fun K hK => ?_) AllReadyH.nil
        go_simp
        go_at_call 69; refine HG.out.mono ?_; rintro e w3 ⟨rfl, hb3⟩
        try go_wp2_with fail
        refine hK.out _ _ ⟨(hb3.cell (p := ⟨wr.heap.size, 0, none⟩) hz1).trans e0, (hb3.cell (p := ⟨wr.heap.size, 1, none⟩) hz1).trans e1, (hb3.cell (p := ⟨wr.heap.size, 2, none⟩) hz1).trans e2, (hb3.cell (p := ⟨b, off + m * 3, none⟩) hbW).trans d0, (hb3.cell (p := ⟨b, off + m * 3 + 1, none⟩) hbW).trans d1, (hb3.cell (p := ⟨b, off + m * 3 + 2, none⟩) hbW).trans d2⟩ (fun hHeld => ?_)
        clear hK K
        try simp only [Act.put, List.setIfInBounds_toArray, List.set_cons_zero, List.set_cons_succ]
        refine takeH 3 20 (.bool false) ⟨_, rfl, rfl, rfl, ?_⟩ (by kernel_rfl) (by kernel_rfl) (by kernel_rfl) (fun _ _ _ h => h) hHeld ?_
        · intro w hSw; (try dsimp only at hSw); go_simp <;> first | exact IntWalk.i64_in _ (by omega) | (intro hq; omega)
        try simp only [Act.put, List.setIfInBounds_toArray, List.set_cons_zero, List.set_cons_succ]
        refine takeH 4 21 (.bool false) ⟨_, rfl, rfl, rfl, ?_⟩ (by kernel_rfl) (by kernel_rfl) (by kernel_rfl) (fun _ _ _ h => h) hHeld ?_
        · intro w hSw; (try dsimp only at hSw); go_simp <;> first | exact IntWalk.i64_in _ (by omega) | (intro hq; omega)
        try simp only [Act.put, List.setIfInBounds_toArray, List.set_cons_zero, List.set_cons_succ]
        refine takeH 5 22 (.int .i64 ((m + 1 : Nat) : Int)) ⟨_, rfl, rfl, rfl, ?_⟩ (by kernel_rfl) (by kernel_rfl) (by kernel_rfl) (fun _ _ _ h => h) hHeld ?_
        · intro w hSw; (try dsimp only at hSw); go_simp <;> first | exact IntWalk.i64_in _ (by omega) | (intro hq; omega)
        try simp only [Act.put, List.setIfInBounds_toArray, List.set_cons_zero, List.set_cons_succ]
        refine takeH 6 23 (.bool true) ⟨_, rfl, rfl, rfl, ?_⟩ (by kernel_rfl) (by kernel_rfl) (by kernel_rfl) (fun _ _ _ h => h) hHeld ?_
        · intro w hSw; (try dsimp only at hSw); go_simp <;> first | exact IntWalk.i64_in _ (by omega) | (intro hq; omega)
        try simp only [Act.put, List.setIfInBounds_toArray, List.set_cons_zero, List.set_cons_succ]
        refine takeH 7 24 (.bool true) ⟨_, rfl, rfl, rfl, ?_⟩ (by kernel_rfl) (by kernel_rfl) (by kernel_rfl) (fun _ _ _ h => h) hHeld ?_
        · intro w hSw; (try dsimp only at hSw); go_simp <;> first | exact IntWalk.i64_in _ (by omega) | (intro hq; omega)
        try simp only [Act.put, List.setIfInBounds_toArray, List.set_cons_zero, List.set_cons_succ]
        refine takeH 8 25 (.slice (some ⟨b, off, none⟩) n1 c1) ⟨_, rfl, rfl, rfl, ?_⟩ (by kernel_rfl) (by kernel_rfl) (by kernel_rfl) (fun _ _ _ h => h) hHeld ?_
        · intro w hSw; (try dsimp only at hSw); go_simp <;> first | exact IntWalk.i64_in _ (by omega) | (intro hq; omega)
        try simp only [Act.put, List.setIfInBounds_toArray, List.set_cons_zero, List.set_cons_succ]
        refine takeH 9 26 (.int .i64 ((m + 1 : Nat) : Int)) ⟨_, rfl, rfl, rfl, ?_⟩ (by kernel_rfl) (by kernel_rfl) (by kernel_rfl) (fun _ _ _ h => h) hHeld ?_
        · intro w hSw; (try dsimp only at hSw); go_simp <;> first | exact IntWalk.i64_in _ (by omega) | (intro hq; omega)
        try simp only [Act.put, List.setIfInBounds_toArray, List.set_cons_zero, List.set_cons_succ]
        refine takeH 10 27 (.int .i64 (m : Int)) ⟨_, rfl, rfl, rfl, ?_⟩ (by kernel_rfl) (by kernel_rfl) (by kernel_rfl) (fun _ _ _ h => h) hHeld ?_
        · intro w hSw; (try dsimp only at hSw); go_simp <;> first | exact IntWalk.i64_in _ (by omega) | (intro hq; omega)
        try simp only [Act.put, List.setIfInBounds_toArray, List.set_cons_zero, List.set_cons_succ]
        refine takeH 11 28 (.pointer (some ⟨b, off + m * 3, none⟩)) ⟨_, rfl, rfl, rfl, ?_⟩ (by kernel_rfl) (by kernel_rfl) (by kernel_rfl) (fun _ _ _ h => h) hHeld ?_
        · intro w hSw; (try dsimp only at hSw); go_simp <;> first | exact IntWalk.i64_in _ (by omega) | (intro hq; omega)
        try simp only [Act.put, List.setIfInBounds_toArray, List.set_cons_zero, List.set_cons_succ]
        refine takeH 12 29 (.agg #[.string p0, .string p1, .int .i64 p2]) ⟨_, rfl, rfl, rfl, ?_⟩ (by kernel_rfl) (by kernel_rfl) (by kernel_rfl) (fun _ _ _ h => h) hHeld ?_
        · intro w hSw; (try dsimp only at hSw); go_simp <;> first | exact IntWalk.i64_in _ (by omega) | (intro hq; omega)
        try simp only [Act.put, List.setIfInBounds_toArray, List.set_cons_zero, List.set_cons_succ]
        refine takeH 13 30 (.agg #[.string f0, .string f1, .int .i64 f2]) ⟨_, rfl, rfl, rfl, ?_⟩ (by kernel_rfl) (by kernel_rfl) (by kernel_rfl) (fun _ _ _ h => h) hHeld ?_
        · intro w hSw; (try dsimp only at hSw); go_simp <;> first | exact IntWalk.i64_in _ (by omega) | (intro hq; omega)
        try simp only [Act.put, List.setIfInBounds_toArray, List.set_cons_zero, List.set_cons_succ]
        refine wpAnyH_ready (rs := [14]) (by kernel_rfl) (by simp) ?_
        refine AllReadyH.cons rfl (fun K hK => ?_) AllReadyH.nil
        go_simp
        go_at_call 70; refine (HCG.out _).mono ?_; rintro e w4 ⟨rfl, hb4⟩
        try go_wp2_with fail
        refine hK.out _ _ ⟨(hb4.cell (p := ⟨wr.heap.size, 0, none⟩) (Nat.lt_of_lt_of_le hz1 hb3.size)).trans ((hb3.cell (p := ⟨wr.heap.size, 0, none⟩) hz1).trans e0), (hb4.cell (p := ⟨wr.heap.size, 1, none⟩) (Nat.lt_of_lt_of_le hz1 hb3.size)).trans ((hb3.cell (p := ⟨wr.heap.size, 1, none⟩) hz1).trans e1), (hb4.cell (p := ⟨wr.heap.size, 2, none⟩) (Nat.lt_of_lt_of_le hz1 hb3.size)).trans ((hb3.cell (p := ⟨wr.heap.size, 2, none⟩) hz1).trans e2), (hb4.cell (p := ⟨b, off + m * 3, none⟩) (Nat.lt_of_lt_of_le hbW hb3.size)).trans ((hb3.cell (p := ⟨b, off + m * 3, none⟩) hbW).trans d0), (hb4.cell (p := ⟨b, off + m * 3 + 1, none⟩) (Nat.lt_of_lt_of_le hbW hb3.size)).trans ((hb3.cell (p := ⟨b, off + m * 3 + 1, none⟩) hbW).trans d1), (hb4.cell (p := ⟨b, off + m * 3 + 2, none⟩) (Nat.lt_of_lt_of_le hbW hb3.size)).trans ((hb3.cell (p := ⟨b, off + m * 3 + 2, none⟩) hbW).trans d2)⟩ (fun hHeld => ?_)
        clear hK K
        try simp only [Act.put, List.setIfInBounds_toArray, List.set_cons_zero, List.set_cons_succ]
        refine takeH 15 32 (.bool false) ⟨_, rfl, rfl, rfl, ?_⟩ (by kernel_rfl) (by kernel_rfl) (by kernel_rfl) (fun _ _ _ h => h) hHeld ?_
        · intro w hSw; (try dsimp only at hSw); go_simp <;> first | exact IntWalk.i64_in _ (by omega) | (intro hq; omega)
        try simp only [Act.put, List.setIfInBounds_toArray, List.set_cons_zero, List.set_cons_succ]
        refine takeH 16 33 (.bool false) ⟨_, rfl, rfl, rfl, ?_⟩ (by kernel_rfl) (by kernel_rfl) (by kernel_rfl) (fun _ _ _ h => h) hHeld ?_
        · intro w hSw; (try dsimp only at hSw); go_simp <;> first | exact IntWalk.i64_in _ (by omega) | (intro hq; omega)
        try simp only [Act.put, List.setIfInBounds_toArray, List.set_cons_zero, List.set_cons_succ]
        refine takeH 17 34 (.bool false) ⟨_, rfl, rfl, rfl, ?_⟩ (by kernel_rfl) (by kernel_rfl) (by kernel_rfl) (fun _ _ _ h => h) hHeld ?_
        · intro w hSw; (try dsimp only at hSw); go_simp <;> first | exact IntWalk.i64_in _ (by omega) | (intro hq; omega)
        try simp only [Act.put, List.setIfInBounds_toArray, List.set_cons_zero, List.set_cons_succ]
        refine wpAnyH_done (by kernel_rfl) ?_ _
        have hbx := (hbw.drew.trans (hb3.mono hbw.size)).trans (hb4.mono (Nat.le_trans hbw.size hb3.size))
        go_wp2
        go_roundw
        case rel => exact ⟨m + 1 + 1, by omega, by go_num, HN, hbx⟩
        case measure => simp [intOf]; omega
      all_goals
        rw [q4] at HCG
        have HN := hide (grants_bad (rs := rs) hx.out (.inr (hup.trans q1)))
        clear q1 q2 q3 q4 hup
        go_wp2
        rw [← hW1]
        clear hW1 hc0 hc1 hc2
        refine wp_region_held_drew (S := fun w' => w'.cell? ⟨wr.heap.size, 0, none⟩ = some (.string f0) ∧ w'.cell? ⟨wr.heap.size, 1, none⟩ = some (.string f1) ∧ w'.cell? ⟨wr.heap.size, 2, none⟩ = some (.int .i64 f2) ∧ w'.cell? ⟨b, off + m * 3, none⟩ = some (.string p0) ∧ w'.cell? ⟨b, off + m * 3 + 1, none⟩ = some (.string p1) ∧ w'.cell? ⟨b, off + m * 3 + 2, none⟩ = some (.int .i64 p2)) (by kernel_rfl) ⟨e0, e1, e2, d0, d1, d2⟩ (fun hHeld => ?_)
        refine takeH 0 17 (.slice A n c) ⟨_, rfl, rfl, rfl, ?_⟩ (by kernel_rfl) (by kernel_rfl) (by kernel_rfl) (fun _ _ _ h => h) hHeld ?_
        · intro w hSw; (try dsimp only at hSw); go_simp <;> first | exact IntWalk.i64_in _ (by omega) | (intro hq; omega)
        try simp only [Act.put, List.setIfInBounds_toArray, List.set_cons_zero, List.set_cons_succ]
        refine takeH 1 18 (.agg #[.string f0, .string f1, .int .i64 f2]) ⟨_, rfl, rfl, rfl, ?_⟩ (by kernel_rfl) (by kernel_rfl) (by kernel_rfl) (fun _ _ _ h => h) hHeld ?_
        · intro w hSw; (try dsimp only at hSw); go_simp <;> first | exact IntWalk.i64_in _ (by omega) | (intro hq; omega)
        try simp only [Act.put, List.setIfInBounds_toArray, List.set_cons_zero, List.set_cons_succ]
        refine wpAnyH_ready (rs := [2]) (by kernel_rfl) (by simp) ?_
        refine AllReadyH.cons rfl (fun K hK => ?_) AllReadyH.nil
        go_simp
        go_at_call 69; refine HG.out.mono ?_; rintro e w3 ⟨rfl, hb3⟩
        try go_wp2_with fail
        refine hK.out _ _ ⟨(hb3.cell (p := ⟨wr.heap.size, 0, none⟩) hz1).trans e0, (hb3.cell (p := ⟨wr.heap.size, 1, none⟩) hz1).trans e1, (hb3.cell (p := ⟨wr.heap.size, 2, none⟩) hz1).trans e2, (hb3.cell (p := ⟨b, off + m * 3, none⟩) hbW).trans d0, (hb3.cell (p := ⟨b, off + m * 3 + 1, none⟩) hbW).trans d1, (hb3.cell (p := ⟨b, off + m * 3 + 2, none⟩) hbW).trans d2⟩ (fun hHeld => ?_)
        clear hK K
        try simp only [Act.put, List.setIfInBounds_toArray, List.set_cons_zero, List.set_cons_succ]
        refine takeH 3 20 (.bool false) ⟨_, rfl, rfl, rfl, ?_⟩ (by kernel_rfl) (by kernel_rfl) (by kernel_rfl) (fun _ _ _ h => h) hHeld ?_
        · intro w hSw; (try dsimp only at hSw); go_simp <;> first | exact IntWalk.i64_in _ (by omega) | (intro hq; omega)
        try simp only [Act.put, List.setIfInBounds_toArray, List.set_cons_zero, List.set_cons_succ]
        refine takeH 4 21 (.bool false) ⟨_, rfl, rfl, rfl, ?_⟩ (by kernel_rfl) (by kernel_rfl) (by kernel_rfl) (fun _ _ _ h => h) hHeld ?_
        · intro w hSw; (try dsimp only at hSw); go_simp <;> first | exact IntWalk.i64_in _ (by omega) | (intro hq; omega)
        try simp only [Act.put, List.setIfInBounds_toArray, List.set_cons_zero, List.set_cons_succ]
        refine takeH 5 22 (.int .i64 ((m + 1 : Nat) : Int)) ⟨_, rfl, rfl, rfl, ?_⟩ (by kernel_rfl) (by kernel_rfl) (by kernel_rfl) (fun _ _ _ h => h) hHeld ?_
        · intro w hSw; (try dsimp only at hSw); go_simp <;> first | exact IntWalk.i64_in _ (by omega) | (intro hq; omega)
        try simp only [Act.put, List.setIfInBounds_toArray, List.set_cons_zero, List.set_cons_succ]
        refine takeH 6 23 (.bool true) ⟨_, rfl, rfl, rfl, ?_⟩ (by kernel_rfl) (by kernel_rfl) (by kernel_rfl) (fun _ _ _ h => h) hHeld ?_
        · intro w hSw; (try dsimp only at hSw); go_simp <;> first | exact IntWalk.i64_in _ (by omega) | (intro hq; omega)
        try simp only [Act.put, List.setIfInBounds_toArray, List.set_cons_zero, List.set_cons_succ]
        refine takeH 7 24 (.bool true) ⟨_, rfl, rfl, rfl, ?_⟩ (by kernel_rfl) (by kernel_rfl) (by kernel_rfl) (fun _ _ _ h => h) hHeld ?_
        · intro w hSw; (try dsimp only at hSw); go_simp <;> first | exact IntWalk.i64_in _ (by omega) | (intro hq; omega)
        try simp only [Act.put, List.setIfInBounds_toArray, List.set_cons_zero, List.set_cons_succ]
        refine takeH 8 25 (.slice (some ⟨b, off, none⟩) n1 c1) ⟨_, rfl, rfl, rfl, ?_⟩ (by kernel_rfl) (by kernel_rfl) (by kernel_rfl) (fun _ _ _ h => h) hHeld ?_
        · intro w hSw; (try dsimp only at hSw); go_simp <;> first | exact IntWalk.i64_in _ (by omega) | (intro hq; omega)
        try simp only [Act.put, List.setIfInBounds_toArray, List.set_cons_zero, List.set_cons_succ]
        refine takeH 9 26 (.int .i64 ((m + 1 : Nat) : Int)) ⟨_, rfl, rfl, rfl, ?_⟩ (by kernel_rfl) (by kernel_rfl) (by kernel_rfl) (fun _ _ _ h => h) hHeld ?_
        · intro w hSw; (try dsimp only at hSw); go_simp <;> first | exact IntWalk.i64_in _ (by omega) | (intro hq; omega)
        try simp only [Act.put, List.setIfInBounds_toArray, List.set_cons_zero, List.set_cons_succ]
        refine takeH 10 27 (.int .i64 (m : Int)) ⟨_, rfl, rfl, rfl, ?_⟩ (by kernel_rfl) (by kernel_rfl) (by kernel_rfl) (fun _ _ _ h => h) hHeld ?_
        · intro w hSw; (try dsimp only at hSw); go_simp <;> first | exact IntWalk.i64_in _ (by omega) | (intro hq; omega)
        try simp only [Act.put, List.setIfInBounds_toArray, List.set_cons_zero, List.set_cons_succ]
        refine takeH 11 28 (.pointer (some ⟨b, off + m * 3, none⟩)) ⟨_, rfl, rfl, rfl, ?_⟩ (by kernel_rfl) (by kernel_rfl) (by kernel_rfl) (fun _ _ _ h => h) hHeld ?_
        · intro w hSw; (try dsimp only at hSw); go_simp <;> first | exact IntWalk.i64_in _ (by omega) | (intro hq; omega)
        try simp only [Act.put, List.setIfInBounds_toArray, List.set_cons_zero, List.set_cons_succ]
        refine takeH 12 29 (.agg #[.string p0, .string p1, .int .i64 p2]) ⟨_, rfl, rfl, rfl, ?_⟩ (by kernel_rfl) (by kernel_rfl) (by kernel_rfl) (fun _ _ _ h => h) hHeld ?_
        · intro w hSw; (try dsimp only at hSw); go_simp <;> first | exact IntWalk.i64_in _ (by omega) | (intro hq; omega)
        try simp only [Act.put, List.setIfInBounds_toArray, List.set_cons_zero, List.set_cons_succ]
        refine takeH 13 30 (.agg #[.string f0, .string f1, .int .i64 f2]) ⟨_, rfl, rfl, rfl, ?_⟩ (by kernel_rfl) (by kernel_rfl) (by kernel_rfl) (fun _ _ _ h => h) hHeld ?_
        · intro w hSw; (try dsimp only at hSw); go_simp <;> first | exact IntWalk.i64_in _ (by omega) | (intro hq; omega)
        try simp only [Act.put, List.setIfInBounds_toArray, List.set_cons_zero, List.set_cons_succ]
        refine wpAnyH_ready (rs := [14]) (by kernel_rfl) (by simp) ?_
        refine AllReadyH.cons rfl (fun K hK => ?_) AllReadyH.nil
        go_simp
        go_at_call 70; refine (HCG.out _).mono ?_; rintro e w4 ⟨rfl, hb4⟩
        try go_wp2_with fail
        refine hK.out _ _ ⟨(hb4.cell (p := ⟨wr.heap.size, 0, none⟩) (Nat.lt_of_lt_of_le hz1 hb3.size)).trans ((hb3.cell (p := ⟨wr.heap.size, 0, none⟩) hz1).trans e0), (hb4.cell (p := ⟨wr.heap.size, 1, none⟩) (Nat.lt_of_lt_of_le hz1 hb3.size)).trans ((hb3.cell (p := ⟨wr.heap.size, 1, none⟩) hz1).trans e1), (hb4.cell (p := ⟨wr.heap.size, 2, none⟩) (Nat.lt_of_lt_of_le hz1 hb3.size)).trans ((hb3.cell (p := ⟨wr.heap.size, 2, none⟩) hz1).trans e2), (hb4.cell (p := ⟨b, off + m * 3, none⟩) (Nat.lt_of_lt_of_le hbW hb3.size)).trans ((hb3.cell (p := ⟨b, off + m * 3, none⟩) hbW).trans d0), (hb4.cell (p := ⟨b, off + m * 3 + 1, none⟩) (Nat.lt_of_lt_of_le hbW hb3.size)).trans ((hb3.cell (p := ⟨b, off + m * 3 + 1, none⟩) hbW).trans d1), (hb4.cell (p := ⟨b, off + m * 3 + 2, none⟩) (Nat.lt_of_lt_of_le hbW hb3.size)).trans ((hb3.cell (p := ⟨b, off + m * 3 + 2, none⟩) hbW).trans d2)⟩ (fun hHeld => ?_)
        clear hK K
        try simp only [Act.put, List.setIfInBounds_toArray, List.set_cons_zero, List.set_cons_succ]
        refine takeH 15 32 (.bool true) ⟨_, rfl, rfl, rfl, ?_⟩ (by kernel_rfl) (by kernel_rfl) (by kernel_rfl) (fun _ _ _ h => h) hHeld ?_
        · intro w hSw; (try dsimp only at hSw); go_simp <;> first | exact IntWalk.i64_in _ (by omega) | (intro hq; omega)
        try simp only [Act.put, List.setIfInBounds_toArray, List.set_cons_zero, List.set_cons_succ]
        refine takeH 16 33 (.bool true) ⟨_, rfl, rfl, rfl, ?_⟩ (by kernel_rfl) (by kernel_rfl) (by kernel_rfl) (fun _ _ _ h => h) hHeld ?_
        · intro w hSw; (try dsimp only at hSw); go_simp <;> first | exact IntWalk.i64_in _ (by omega) | (intro hq; omega)
        try simp only [Act.put, List.setIfInBounds_toArray, List.set_cons_zero, List.set_cons_succ]
        refine takeH 17 34 (.bool true) ⟨_, rfl, rfl, rfl, ?_⟩ (by kernel_rfl) (by kernel_rfl) (by kernel_rfl) (fun _ _ _ h => h) hHeld ?_
        · intro w hSw; (try dsimp only at hSw); go_simp <;> first | exact IntWalk.i64_in _ (by omega) | (intro hq; omega)
        try simp only [Act.put, List.setIfInBounds_toArray, List.set_cons_zero, List.set_cons_succ]
        refine wpAnyH_done (by kernel_rfl) ?_ _
        have hbx := (hbw.drew.trans (hb3.mono hbw.size)).trans (hb4.mono (Nat.le_trans hbw.size hb3.size))
        go_wp2
        go_ret
        exact ⟨ret_bool HN.out.symm, hbx⟩
    · have hKn : K = n1 := by omega
      have HN := hide (grants_all (rs := rs) HR.out HL.out (hKn ▸ HC.out))
      clear hKn
      go_wp2
      go_ret
      exact ⟨ret_bool HN.out.symm, hb⟩

set_option maxRecDepth 100000 in
set_option maxHeartbeats 8000000 in
theorem l28Ok_calls (A : Option Addr) (n c : Nat) (rs : List RoleZ) (A1 : Option Addr) (n1 c1 : Nat) (gs : List GrantZ) (w : World) (h : RdRz w A n rs) (h1 : RdK kGrant w A1 n1 gs) (hn : n ≤ 1048576) (hn1 : n1 ≤ 1048576) :
    Calls Try.prog 68 #[.slice A n c, .slice A1 n1 c1] w fun e w' => e = .returned (.bool (grantsB rs gs)) ∧ Below w.heap.size w w' := by
  have HL := hide h1.2.1
  have HM := hide (l28Roles_calls A n c rs w h hn)
  rcases b_cases (rolesB rs) with hr | hr
  · have HN := hide (grants_no (gs := gs) hr)
    rw [hr] at HM
    clear hr
    go_enter Try.func68, Try.ntmps68
    go_wp2_with fail
    refine HM.out.mono ?_
    rintro e w1 ⟨rfl, hb1⟩
    go_wp2
    go_ret
    exact ⟨ret_bool HN.out.symm, hb1⟩
  rw [hr] at HM
  have HR := hide hr
  clear hr
  by_cases h48 : (48 : Int) < n1
  · have HN : Hid (grantsB rs gs = false) := by
      unfold Hid
      rw [← Bool.not_eq_true]
      intro hb
      have := grants_len hb
      have := HL.out
      omega
    go_enter Try.func68, Try.ntmps68
    go_wp2_with fail
    refine HM.out.mono ?_
    rintro e w1 ⟨rfl, hb1⟩
    go_wp2
    go_ret
    exact ⟨ret_bool HN.out.symm, hb1⟩
  go_enter Try.func68, Try.ntmps68
  go_wp2_with fail
  refine HM.out.mono ?_
  clear HM
  rintro e w1 ⟨rfl, hb1⟩
  have h1' := h1.below hb1 (Nat.le_refl _)
  have h' := h.below hb1 (Nat.le_refl _)
  clear h h1
  go_wp2
  go_loopw [5] (fun i wr => ∃ (K m : Nat), K ≤ n1 ∧ i = .int .i64 K ∧ Hid (∀ j, j < K → stepG rs gs j = true) ∧ wr = w1.drewN m) (fun i _ => n1 - (intOf i).toNat)
  case atStart => exact ⟨0, 0, Nat.zero_le _, rfl, fun j hj => absurd hj (by omega), rfl⟩
  case round =>
    obtain ⟨K, m0, hK, rfl, HC, rfl⟩ := hrel
    by_cases hlt : K < n1
    · obtain ⟨b, off, f0, f1, f2, rfl, hbl, hx, hc0, hc1, hc2, hs0, hs1, hs2, hs3⟩ := h1'.atGrant hlt
      have HG : Hid (∀ k, Calls Try.prog 89 #[.slice A n c, .pointer (some ⟨b, off + K * 3, none⟩)] (w1.drewN k) fun e w' => e = .returned (.bool (grantB rs ⟨f0, f1, f2⟩)) ∧ w1.drewN k = w') := fun k => l28One_calls A n c rs ⟨f0, f1, f2⟩ b (off + K * 3) _ (h'.drewN k) hn ⟨hs0, hs1, hs2, hs3⟩ hc0 hc1 hc2
      have HST := hide (stepG_at (rs := rs) hx.out)
      rcases b_cases (grantB rs ⟨f0, f1, f2⟩) with hg | hg
      · have HN := hide (grants_bad (rs := rs) hx.out (.inl hg))
        rw [hg] at HG
        clear hg
        go_wp2
        go_quiet (first | exact quiet_eq (HG.out _) | exact quiet_eq2 (HG.out _))
        go_wp2
        go_ret
        exact ⟨ret_bool HN.out.symm, (by first | exact below_drewN hb1 _ | exact below_drewN (below_drewN hb1 _) _)⟩
      rw [hg] at HG HST
      rw [Bool.true_and] at HST
      clear hg
      by_cases hk0 : K = 0
      · subst hk0
        have HN := hide (upto_snoc HC.out HST.out)
        have hc0' : w1.cell? ⟨b, off, none⟩ = some (.string f0) := by simpa using hc0
        have HG0 : Hid (∀ k, Calls Try.prog 89 #[.slice A n c, .pointer (some ⟨b, off, none⟩)] (w1.drewN k) fun e w' => e = .returned (.bool true) ∧ w1.drewN k = w') := by
          intro k
          have := HG.out k
          rw [show off + 0 * 3 = off by omega] at this
          exact this
        go_wp2
        go_quiet (first | exact quiet_eq (HG0.out _) | exact quiet_eq2 (HG0.out _))
        go_wp2
        go_roundw
        case rel => exact ⟨1, _, by omega, by go_num, HN, (by first | rfl | exact World.drewN_drewN _ _ _)⟩
        case measure => simp [intOf]; omega
      obtain ⟨m, rfl⟩ : ∃ m, K = m + 1 := ⟨K - 1, by omega⟩
      clear hk0
      obtain ⟨_, _, p0, p1, p2, hA, _, hy, d0, d1, d2, _, _, _, _⟩ := h1'.atGrant (show m < n1 by omega)
      obtain ⟨rfl, rfl⟩ : b = _ ∧ off = _ := by injection hA with hA; injection hA; exact ⟨‹_›, ‹_›⟩
      clear hA
      have hup := upG_at hy.out hx.out
      have hd : decide ((0 : Int) < ((m + 1 : Nat) : Int)) = true := decide_eq_true (by omega)
      have HB : Hid (∀ k, Calls Try.prog 90 #[.pointer (some ⟨b, off + m * 3, none⟩), .pointer (some ⟨b, off + (m + 1) * 3, none⟩)] (w1.drewN k) fun e w' => e = .returned (.bool (gLess ⟨p0, p1, p2⟩ ⟨f0, f1, f2⟩)) ∧ ∃ j, w' = (w1.drewN k).drewN j) := fun k => l28Before_calls ⟨p0, p1, p2⟩ ⟨f0, f1, f2⟩ b (off + m * 3) b (off + (m + 1) * 3) _ d0 d1 d2 hc0 hc1 hc2
      rcases b_cases (gLess ⟨p0, p1, p2⟩ ⟨f0, f1, f2⟩) with q | q
      · have HN := hide (grants_bad (rs := rs) hx.out (.inr (hup.trans q)))
        rw [q] at HB
        clear q hup
        go_wp2
        go_quiet (first | (go_at_call 89; first | exact quiet_eq (HG.out _) | exact quiet_eq2 (HG.out _)) | (go_at_call 90; first | exact quiet_dr (HB.out _) | exact quiet_dr2 (HB.out _)))
        go_wp2
        go_ret
        exact ⟨ret_bool HN.out.symm, (by first | exact below_drewN hb1 _ | exact below_drewN (below_drewN hb1 _) _)⟩
      · have HN := hide (upto_snoc HC.out (HST.out.trans (hup.trans q)))
        rw [q] at HB
        clear q hup
        go_wp2
        go_quiet (first | (go_at_call 89; first | exact quiet_eq (HG.out _) | exact quiet_eq2 (HG.out _)) | (go_at_call 90; first | exact quiet_dr (HB.out _) | exact quiet_dr2 (HB.out _)))
        go_wp2
        go_roundw
        case rel => exact ⟨m + 1 + 1, _, by omega, by go_num, HN, (by first | rfl | exact World.drewN_drewN _ _ _)⟩
        case measure => simp [intOf]; omega
    · have hKn : K = n1 := by omega
      have HN : Hid (grantsB rs gs = true) := by
        unfold Hid
        rw [grants_all HR.out HL.out (hKn ▸ HC.out)]
        exact decide_eq_true (by omega)
      clear hKn
      go_wp2
      go_ret
      exact ⟨ret_bool HN.out.symm, below_drewN hb1 _⟩

theorem specValidGrants_calls (A : Option Addr) (n c : Nat) (rs : List RoleZ) (A1 : Option Addr) (n1 c1 : Nat) (gs : List GrantZ) (w : World) (h : RdRz w A n rs) (h1 : RdK kGrant w A1 n1 gs) (hn : n ≤ 1048576) (hn1 : n1 ≤ 1048576) (hs : ShortR rs) :
    Calls Try.prog 26 #[.slice A n c, .slice A1 n1 c1] w fun e w' => e = .returned (.bool (grantsB rs gs)) ∧ Below w.heap.size w w' := by
  have HM := hide (l28Ok_calls A n c rs A1 n1 c1 gs w h h1 hn hn1)
  clear h h1
  go_enter Try.func26, Try.ntmps26
  go_wp2_with fail
  refine HM.out.mono ?_
  rintro e w1 ⟨rfl, hb1⟩
  go_wp2
  go_ret
  exact ⟨rfl, hb1⟩

end Go.Proofs.Ytidhbpnibgegdaa
