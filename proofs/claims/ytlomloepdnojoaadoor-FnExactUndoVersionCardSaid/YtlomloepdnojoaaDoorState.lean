/- Contracts on valid settings and states, of the program and of the reference. -/
import Derived.Test.YtlomloepdnojoaaDoorRows
import Derived.Test.YtlomloepdnojoaaDoorBase
import Derived.Test.YtlomloepdnojoaaDoorIn
import Derived.Test.YtlomloepdnojoaaDoorTake
import Derived.Test.YtlomloepdnojoaaDoorName
import Derived.Test.YtlomloepdnojoaaDoorSet
import Derived.Deep.RegionHeld3
namespace Go.Proofs.YtlomloepdnojoaaDoor
open Go.RowKit
set_option linter.unusedVariables false


/-- Is a setting valid? -/
def setB (s : ByteArray) (v : Int) : Bool := nameB s && withinB v 0 1000

theorem l27Setting_calls (b off : Nat) (s : ByteArray) (v : Int) (w : World) (hc : w.cell? ⟨b, off, none⟩ = some (.string s)) (hc2 : w.cell? ⟨b, off + 1, none⟩ = some (.int .i64 v)) (hs : s.size ≤ 9223372036854775807) :
    Calls Tryd.prog 147 #[.pointer (some ⟨b, off, none⟩)] w fun e w' => e = .returned (.bool (setB s v)) ∧ w = w' := by
  have hfin : Hid (setB s v = (nameB s && withinB v 0 1000)) := rfl
  rcases b_cases (nameB s) with h1 | h1
  · go_enter Tryd.func147, Tryd.ntmps147
    go_wp2_with (go_at_call 153; refine (l01Name_calls _ _ hs).mono ?_; rintro e w' ⟨rfl, rfl⟩)
    go_ret
    exact ⟨ret_bool (by rw [hfin.out, h1]; rfl), rfl⟩
  · go_enter Tryd.func147, Tryd.ntmps147
    go_wp2_with (first
      | (go_at_call 153; refine (l01Name_calls _ _ hs).mono ?_; rintro e w' ⟨rfl, rfl⟩)
      | (go_at_call 103; refine (l00In_calls _ _ _ _).mono ?_; rintro e w' ⟨rfl, rfl⟩))
    go_ret
    exact ⟨ret_bool (by rw [hfin.out, h1]; rfl), rfl⟩

set_option maxHeartbeats 1000000 in
theorem validSetting_calls (s : ByteArray) (v : Int) (w : World) (hs : s.size ≤ 9223372036854775807) :
    Calls Tryd.prog 89 #[.agg #[.string s, .int .i64 v]] w fun e w' => e = .returned (.bool (setB s v)) ∧ Below w.heap.size w w' := by
  have hfin : Hid (setB s v = (nameB s && withinB v 0 1000)) := rfl
  rcases b_cases (nameB s) with h1 | h1
  · go_enter Tryd.func89, Tryd.ntmps89
    go_wp2_with (go_at_call 116; refine (isName_calls _ _ hs).mono ?_; rintro e w' ⟨rfl, hb⟩)
    go_ret
    exact ⟨ret_bool (by rw [hfin.out, h1]; rfl), ((Below.refl _ _).alloc (Nat.le_refl _) _).trans (hb.mono (by simp))⟩
  · go_enter Tryd.func89, Tryd.ntmps89
    go_wp2_with (first
      | (go_at_call 116; refine (isName_calls _ _ hs).mono ?_; rintro e w' ⟨rfl, hb⟩
         have hcell : w'.cell? ⟨w.heap.size, 1, none⟩ = some (.int .i64 v) := ((hb.cell (by simp)).trans (by simp [go_sem])))
      | (go_at_call 88; refine (within_calls _ _ _ _).mono ?_; rintro e w'' ⟨rfl, rfl⟩))
    go_ret
    exact ⟨ret_bool (by rw [hfin.out, h1]; rfl), ((Below.refl _ _).alloc (Nat.le_refl _) _).trans (hb.mono (by simp))⟩

theorem validSetting_q (s : ByteArray) (v : Int) (q : Bool) (w : World) (hq : setB s v = q) (hs : s.size ≤ 9223372036854775807) :
    Calls Tryd.prog 89 #[.agg #[.string s, .int .i64 v]] w fun e w' => e = .returned (.bool q) ∧ Below w.heap.size w w' := hq ▸ validSetting_calls s v w hs

/-- Is the setting at k valid, and does it stand behind the one before? -/
def stepB (ss : List SetZ) (k : Nat) : Bool :=
  match ss[k]? with
  | none => true
  | some s => setB s.name s.value && (k == 0 || match ss[k - 1]? with | none => true | some p => strLess p.name s.name)
/-- Is a state valid? -/
def stateB (ss : List SetZ) : Bool := (List.range ss.length).all (stepB ss) && decide (ss.length ≤ 24)

theorem state_len {ss : List SetZ} (h : stateB ss = true) : ss.length ≤ 24 := by
  unfold stateB at h
  rw [Bool.and_eq_true] at h
  simpa using h.2
theorem step_set {ss : List SetZ} {k : Nat} {s : SetZ} (h : ss[k]? = some s) (hb : setB s.name s.value = false) : stepB ss k = false := by
  unfold stepB
  rw [h]
  simp [hb]
theorem step_first {ss : List SetZ} {s : SetZ} (h : ss[0]? = some s) : stepB ss 0 = setB s.name s.value := by
  unfold stepB
  rw [h]
  simp
theorem step_next {ss : List SetZ} {k : Nat} {s p : SetZ} (h : ss[k]? = some s) (hp : ss[k - 1]? = some p) (hk : 0 < k) (hb : setB s.name s.value = true) : stepB ss k = strLess p.name s.name := by
  unfold stepB
  rw [h, hp]
  have : (k == 0) = false := by simp; omega
  simp [hb, this]
theorem state_bad {ss : List SetZ} {n k : Nat} (hl : ss.length = n) (hk : k < n) (h : stepB ss k = false) : stateB ss = false := by
  unfold stateB
  have : (List.range ss.length).all (stepB ss) = false := by
    rw [List.all_eq_false]
    exact ⟨k, by simp; omega, by simp [h]⟩
  rw [this]; rfl
theorem state_end {ss : List SetZ} {n : Nat} (hl : ss.length = n) (h : ∀ j, j < n → stepB ss j = true) : stateB ss = decide ((n : Int) ≤ 24) := by
  unfold stateB
  have : (List.range ss.length).all (stepB ss) = true := by
    rw [List.all_eq_true]
    intro j hj
    exact h j (by simpa [hl] using hj)
  rw [this, hl]
  simp only [Bool.true_and, decide_eq_decide]
  omega
theorem steps_snoc {ss : List SetZ} {k : Nat} (h : ∀ j, j < k → stepB ss j = true) (hk : stepB ss k = true) : ∀ j, j < k + 1 → stepB ss j = true := by
  intro j hj
  rcases Nat.lt_or_ge j k with h1 | h1
  · exact h j h1
  · rw [show j = k by omega]
    exact hk

set_option maxHeartbeats 1000000 in
theorem l27State_calls (A : Option Addr) (n c : Nat) (ss : List SetZ) (w : World) (h : RdS w A n ss) (hn : n ≤ 1048576) :
    Calls Tryd.prog 105 #[.slice A n c] w fun e w' => e = .returned (.bool (stateB ss)) ∧ ∃ m, w' = w.drewN m := by
  have HL := hide h.2.1
  go_enter Tryd.func105, Tryd.ntmps105
  go_wp2
  go_loopw [3] (fun i wr => ∃ (k : Nat), k ≤ n ∧ i = .int .i64 k ∧ Hid (∀ j, j < k → stepB ss j = true) ∧ ∃ m, wr = w.drewN m) (fun i _ => n - (intOf i).toNat)
  case atStart => exact ⟨0, Nat.zero_le _, rfl, fun j hj => absurd hj (by omega), 0, rfl⟩
  case round =>
    obtain ⟨k, hk, rfl, HC, m, rfl⟩ := hrel
    by_cases hlt : k < n
    · obtain ⟨b, off, s, v, rfl, hbl, hx, hc, hc2, hs1, hv1, hv2⟩ := h.at hlt
      rcases b_cases (setB s v) with hB | hB
      · have HN := hide (state_bad HL.out hlt (step_set hx.out hB))
        go_wp2
        go_quiet (first | exact quiet_eq (l27Setting_calls _ _ _ _ _ hc hc2 hs1) | exact quiet_eq2 (l27Setting_calls _ _ _ _ _ hc hc2 hs1))
        go_wp2
        go_ret
        exact ⟨ret_bool HN.out.symm, (by first | exact ⟨_, rfl⟩ | exact drewN2 _ _ _)⟩
      · by_cases hk0 : k = 0
        · have HN := hide ((step_first (hk0 ▸ hx.out)).trans hB)
          subst hk0
          go_wp2
          go_quiet (first | exact quiet_eq (l27Setting_calls _ _ _ _ _ hc hc2 hs1) | exact quiet_eq2 (l27Setting_calls _ _ _ _ _ hc hc2 hs1))
          go_wp2
          go_roundw
          case rel => exact ⟨1, by omega, by go_num, steps_snoc HC.out HN.out, (by first | exact ⟨_, rfl⟩ | exact drewN2 _ _ _)⟩
          case measure => (simp [intOf]; try omega)
        · obtain ⟨k', rfl⟩ : ∃ k', k = k' + 1 := ⟨k - 1, by omega⟩
          obtain ⟨_, _, p, vp, hA, _, hy, hp, _, hps, _, _⟩ := h.at (k := k') (by omega)
          obtain ⟨rfl, rfl⟩ : b = _ ∧ off = _ := by injection hA with hA; injection hA; exact ⟨‹_›, ‹_›⟩
          clear hA
          have hst := step_next hx.out (p := ⟨p, vp⟩) (by simpa using hy.out) (by omega) hB
          have hd : decide ((0 : Int) < ((k' + 1 : Nat) : Int)) = true := decide_eq_true (by omega)
          rcases str_ways p s with ⟨q1, q2, q3, q4, q5, q6, q7⟩ | ⟨q1, q2, q3, q4, q5, q6, q7⟩ | ⟨q1, q2, q3, q4, q5, q6, q7⟩
          · have HN := hide (steps_snoc HC.out (hst.trans q5))
            clear q2 q3 q4 q5 q6 q7 hst
            go_wp2
            go_quiet (first | exact quiet_eq (l27Setting_calls _ _ _ _ _ hc hc2 hs1) | exact quiet_eq2 (l27Setting_calls _ _ _ _ _ hc hc2 hs1))
            go_wp2
            go_roundw
            case rel => exact ⟨k' + 1 + 1, by omega, by go_num, HN, (by first | exact ⟨_, rfl⟩ | exact drewN2 _ _ _)⟩
            case measure => (simp [intOf]; try omega)
          all_goals
            have HN := hide (state_bad HL.out hlt (hst.trans q5))
            clear q2 q3 q4 q5 q6 q7 hst
            go_wp2
            go_quiet (first | exact quiet_eq (l27Setting_calls _ _ _ _ _ hc hc2 hs1) | exact quiet_eq2 (l27Setting_calls _ _ _ _ _ hc hc2 hs1))
            go_wp2
            go_ret
            exact ⟨ret_bool HN.out.symm, (by first | exact ⟨_, rfl⟩ | exact drewN2 _ _ _)⟩
    · have hkn : k = n := by omega
      have HN := hide (state_end HL.out (hkn ▸ HC.out))
      clear HC
      go_wp2
      go_ret
      exact ⟨ret_bool HN.out.symm, _, rfl⟩

set_option maxHeartbeats 2000000 in
theorem implValidState_calls (A : Option Addr) (n c : Nat) (ss : List SetZ) (w : World) (h : RdS w A n ss) (hn : n ≤ 1048576) :
    Calls Tryd.prog 85 #[.slice A n c] w fun e w' => e = .returned (.bool (stateB ss)) ∧ Below w.heap.size w w' := by
  have HL := hide h.2.1
  go_enter Tryd.func85, Tryd.ntmps85
  go_wp2
  go_loopw [7] (fun i wr => ∃ (k : Nat), k ≤ n ∧ i = .int .i64 k ∧ Hid (∀ j, j < k → stepB ss j = true) ∧ Below w.heap.size w wr) (fun i _ => n - (intOf i).toNat)
  case atStart => exact ⟨0, Nat.zero_le _, rfl, fun j hj => absurd hj (by omega), Below.refl _ _⟩
  case round =>
    obtain ⟨k, hk, rfl, HC, hb⟩ := hrel
    by_cases hlt : k < n
    · obtain ⟨b, off, s, v, rfl, hbl, hx, hc, hc2, hs1, hv1, hv2⟩ := (h.below hb (Nat.le_refl _)).at hlt
      rcases b_cases (setB s v) with hB | hB
      · have HN := hide (state_bad HL.out hlt (step_set hx.out hB))
        go_wp2
        obtain ⟨w1, hw1⟩ : ∃ w1, w1 = wr.alloc (.cells #[.string s, .int .i64 v] 108) := ⟨_, rfl⟩
        rw [← hw1]
        have hbw : Below wr.heap.size wr w1 := hw1 ▸ (Below.refl _ _).alloc (Nat.le_refl _) _
        have c0 : w1.cell? ⟨wr.heap.size, 0, none⟩ = some (.string s) := by rw [hw1]; simp [go_sem]
        have c1 : w1.cell? ⟨wr.heap.size, 1, none⟩ = some (.int .i64 v) := by rw [hw1]; simp [go_sem]
        have hz : wr.heap.size < w1.heap.size := by rw [hw1]; simp
        clear hw1
        refine wp_region_held_drew (S := fun w' => w'.cell? ⟨wr.heap.size, 0, none⟩ = some (.string s) ∧ w'.cell? ⟨wr.heap.size, 1, none⟩ = some (.int .i64 v)) (by kernel_rfl) ⟨c0, c1⟩ (fun hHeld => ?_)
        refine takeH 0 12 (.agg #[.string s, .int .i64 v]) ⟨_, rfl, rfl, rfl, ?_⟩ (by kernel_rfl) (by kernel_rfl) (by kernel_rfl) (fun _ _ _ h => h) hHeld ?_
        · intro w hSw; (try dsimp only at hSw); go_simp
        try simp only [Act.put, List.setIfInBounds_toArray, List.set_cons_zero, List.set_cons_succ]
        refine wpAnyH_ready (rs := [1]) (by kernel_rfl) (by simp) ?_
        refine AllReadyH.cons rfl (fun K hK => ?_) AllReadyH.nil
        go_simp
        go_at_call 89; refine (validSetting_q _ _ _ _ hB hs1).mono ?_; rintro e w3 ⟨rfl, hb3⟩
        try go_wp2_with fail
        refine hK.out _ _ ⟨(hb3.cell (p := ⟨wr.heap.size, 0, none⟩) hz).trans c0, (hb3.cell (p := ⟨wr.heap.size, 1, none⟩) hz).trans c1⟩ (fun hHeld => ?_)
        clear hK K
        try simp only [Act.put, List.setIfInBounds_toArray, List.set_cons_zero, List.set_cons_succ]
        refine takeH 2 14 (.bool true) ⟨_, rfl, rfl, rfl, ?_⟩ (by kernel_rfl) (by kernel_rfl) (by kernel_rfl) (fun _ _ _ h => h) hHeld ?_
        · intro w hSw; (try dsimp only at hSw); go_simp
        try simp only [Act.put, List.setIfInBounds_toArray, List.set_cons_zero, List.set_cons_succ]
        refine takeH 3 15 (.bool true) ⟨_, rfl, rfl, rfl, ?_⟩ (by kernel_rfl) (by kernel_rfl) (by kernel_rfl) (fun _ _ _ h => h) hHeld ?_
        · intro w hSw; (try dsimp only at hSw); go_simp
        try simp only [Act.put, List.setIfInBounds_toArray, List.set_cons_zero, List.set_cons_succ]
        refine skipH 4 16 ⟨_, rfl, rfl, rfl⟩ (by kernel_rfl) (by kernel_rfl) (by kernel_rfl) (fun _ _ _ h => h) hHeld ?_
        try simp only [Act.put, List.setIfInBounds_toArray, List.set_cons_zero, List.set_cons_succ]
        refine skipH 5 17 ⟨_, rfl, rfl, rfl⟩ (by kernel_rfl) (by kernel_rfl) (by kernel_rfl) (fun _ _ _ h => h) hHeld ?_
        try simp only [Act.put, List.setIfInBounds_toArray, List.set_cons_zero, List.set_cons_succ]
        refine skipH 6 18 ⟨_, rfl, rfl, rfl⟩ (by kernel_rfl) (by kernel_rfl) (by kernel_rfl) (fun _ _ _ h => h) hHeld ?_
        try simp only [Act.put, List.setIfInBounds_toArray, List.set_cons_zero, List.set_cons_succ]
        refine skipH 7 19 ⟨_, rfl, rfl, rfl⟩ (by kernel_rfl) (by kernel_rfl) (by kernel_rfl) (fun _ _ _ h => h) hHeld ?_
        try simp only [Act.put, List.setIfInBounds_toArray, List.set_cons_zero, List.set_cons_succ]
        refine skipH 8 20 ⟨_, rfl, rfl, rfl⟩ (by kernel_rfl) (by kernel_rfl) (by kernel_rfl) (fun _ _ _ h => h) hHeld ?_
        try simp only [Act.put, List.setIfInBounds_toArray, List.set_cons_zero, List.set_cons_succ]
        refine skipH 9 21 ⟨_, rfl, rfl, rfl⟩ (by kernel_rfl) (by kernel_rfl) (by kernel_rfl) (fun _ _ _ h => h) hHeld ?_
        try simp only [Act.put, List.setIfInBounds_toArray, List.set_cons_zero, List.set_cons_succ]
        refine skipH 10 22 ⟨_, rfl, rfl, rfl⟩ (by kernel_rfl) (by kernel_rfl) (by kernel_rfl) (fun _ _ _ h => h) hHeld ?_
        try simp only [Act.put, List.setIfInBounds_toArray, List.set_cons_zero, List.set_cons_succ]
        refine skipH 11 23 ⟨_, rfl, rfl, rfl⟩ (by kernel_rfl) (by kernel_rfl) (by kernel_rfl) (fun _ _ _ h => h) hHeld ?_
        try simp only [Act.put, List.setIfInBounds_toArray, List.set_cons_zero, List.set_cons_succ]
        refine skipH 12 24 ⟨_, rfl, rfl, rfl⟩ (by kernel_rfl) (by kernel_rfl) (by kernel_rfl) (fun _ _ _ h => h) hHeld ?_
        try simp only [Act.put, List.setIfInBounds_toArray, List.set_cons_zero, List.set_cons_succ]
        refine skipH 13 25 ⟨_, rfl, rfl, rfl⟩ (by kernel_rfl) (by kernel_rfl) (by kernel_rfl) (fun _ _ _ h => h) hHeld ?_
        try simp only [Act.put, List.setIfInBounds_toArray, List.set_cons_zero, List.set_cons_succ]
        refine skipH 14 26 ⟨_, rfl, rfl, rfl⟩ (by kernel_rfl) (by kernel_rfl) (by kernel_rfl) (fun _ _ _ h => h) hHeld ?_
        try simp only [Act.put, List.setIfInBounds_toArray, List.set_cons_zero, List.set_cons_succ]
        refine skipH 15 27 ⟨_, rfl, rfl, rfl⟩ (by kernel_rfl) (by kernel_rfl) (by kernel_rfl) (fun _ _ _ h => h) hHeld ?_
        try simp only [Act.put, List.setIfInBounds_toArray, List.set_cons_zero, List.set_cons_succ]
        refine skipH 16 28 ⟨_, rfl, rfl, rfl⟩ (by kernel_rfl) (by kernel_rfl) (by kernel_rfl) (fun _ _ _ h => h) hHeld ?_
        try simp only [Act.put, List.setIfInBounds_toArray, List.set_cons_zero, List.set_cons_succ]
        refine takeH 17 29 (.bool true) ⟨_, rfl, rfl, rfl, ?_⟩ (by kernel_rfl) (by kernel_rfl) (by kernel_rfl) (fun _ _ _ h => h) hHeld ?_
        · intro w hSw; (try dsimp only at hSw); go_simp
        try simp only [Act.put, List.setIfInBounds_toArray, List.set_cons_zero, List.set_cons_succ]
        refine wpAnyH_done (by kernel_rfl) ?_ _
        have hbx : Below w.heap.size w w3 := (hb.trans (hbw.mono hb.size)).drew.trans (hb3.mono (Nat.le_trans hb.size hbw.size))
        go_wp2
        go_ret
        exact ⟨ret_bool HN.out.symm, hbx⟩
      · by_cases hk0 : k = 0
        · have HN := hide ((step_first (hk0 ▸ hx.out)).trans hB)
          subst hk0
          have hc' : wr.cell? ⟨b, off, none⟩ = some (.string s) := by simpa using hc
          have hc2' : wr.cell? ⟨b, off + 1, none⟩ = some (.int .i64 v) := by simpa using hc2
          go_wp2
          obtain ⟨w1, hw1⟩ : ∃ w1, w1 = wr.alloc (.cells #[.string s, .int .i64 v] 108) := ⟨_, rfl⟩
          rw [← hw1]
          have hbw : Below wr.heap.size wr w1 := hw1 ▸ (Below.refl _ _).alloc (Nat.le_refl _) _
          have c0 : w1.cell? ⟨wr.heap.size, 0, none⟩ = some (.string s) := by rw [hw1]; simp [go_sem]
          have c1 : w1.cell? ⟨wr.heap.size, 1, none⟩ = some (.int .i64 v) := by rw [hw1]; simp [go_sem]
          have hz : wr.heap.size < w1.heap.size := by rw [hw1]; simp
          clear hw1
          refine wp_region_held_drew (S := fun w' => w'.cell? ⟨wr.heap.size, 0, none⟩ = some (.string s) ∧ w'.cell? ⟨wr.heap.size, 1, none⟩ = some (.int .i64 v)) (by kernel_rfl) ⟨c0, c1⟩ (fun hHeld => ?_)
          refine takeH 0 12 (.agg #[.string s, .int .i64 v]) ⟨_, rfl, rfl, rfl, ?_⟩ (by kernel_rfl) (by kernel_rfl) (by kernel_rfl) (fun _ _ _ h => h) hHeld ?_
          · intro w hSw; (try dsimp only at hSw); go_simp
          try simp only [Act.put, List.setIfInBounds_toArray, List.set_cons_zero, List.set_cons_succ]
          refine wpAnyH_ready (rs := [1]) (by kernel_rfl) (by simp) ?_
          refine AllReadyH.cons rfl (fun K hK => ?_) AllReadyH.nil
          go_simp
          go_at_call 89; refine (validSetting_q _ _ _ _ hB hs1).mono ?_; rintro e w3 ⟨rfl, hb3⟩
          try go_wp2_with fail
          refine hK.out _ _ ⟨(hb3.cell (p := ⟨wr.heap.size, 0, none⟩) hz).trans c0, (hb3.cell (p := ⟨wr.heap.size, 1, none⟩) hz).trans c1⟩ (fun hHeld => ?_)
          clear hK K
          try simp only [Act.put, List.setIfInBounds_toArray, List.set_cons_zero, List.set_cons_succ]
          refine takeH 2 14 (.bool false) ⟨_, rfl, rfl, rfl, ?_⟩ (by kernel_rfl) (by kernel_rfl) (by kernel_rfl) (fun _ _ _ h => h) hHeld ?_
          · intro w hSw; (try dsimp only at hSw); go_simp
          try simp only [Act.put, List.setIfInBounds_toArray, List.set_cons_zero, List.set_cons_succ]
          refine takeH 3 15 (.bool false) ⟨_, rfl, rfl, rfl, ?_⟩ (by kernel_rfl) (by kernel_rfl) (by kernel_rfl) (fun _ _ _ h => h) hHeld ?_
          · intro w hSw; (try dsimp only at hSw); go_simp
          try simp only [Act.put, List.setIfInBounds_toArray, List.set_cons_zero, List.set_cons_succ]
          refine takeH 4 16 (.int .i64 ((0 : Nat) : Int)) ⟨_, rfl, rfl, rfl, ?_⟩ (by kernel_rfl) (by kernel_rfl) (by kernel_rfl) (fun _ _ _ h => h) hHeld ?_
          · intro w hSw; (try dsimp only at hSw); go_simp
          try simp only [Act.put, List.setIfInBounds_toArray, List.set_cons_zero, List.set_cons_succ]
          refine takeH 5 17 (.bool false) ⟨_, rfl, rfl, rfl, ?_⟩ (by kernel_rfl) (by kernel_rfl) (by kernel_rfl) (fun _ _ _ h => h) hHeld ?_
          · intro w hSw; (try dsimp only at hSw); go_simp
          try simp only [Act.put, List.setIfInBounds_toArray, List.set_cons_zero, List.set_cons_succ]
          refine takeH 6 18 (.bool false) ⟨_, rfl, rfl, rfl, ?_⟩ (by kernel_rfl) (by kernel_rfl) (by kernel_rfl) (fun _ _ _ h => h) hHeld ?_
          · intro w hSw; (try dsimp only at hSw); go_simp
          try simp only [Act.put, List.setIfInBounds_toArray, List.set_cons_zero, List.set_cons_succ]
          refine skipH 7 19 ⟨_, rfl, rfl, rfl⟩ (by kernel_rfl) (by kernel_rfl) (by kernel_rfl) (fun _ _ _ h => h) hHeld ?_
          try simp only [Act.put, List.setIfInBounds_toArray, List.set_cons_zero, List.set_cons_succ]
          refine skipH 8 20 ⟨_, rfl, rfl, rfl⟩ (by kernel_rfl) (by kernel_rfl) (by kernel_rfl) (fun _ _ _ h => h) hHeld ?_
          try simp only [Act.put, List.setIfInBounds_toArray, List.set_cons_zero, List.set_cons_succ]
          refine skipH 9 21 ⟨_, rfl, rfl, rfl⟩ (by kernel_rfl) (by kernel_rfl) (by kernel_rfl) (fun _ _ _ h => h) hHeld ?_
          try simp only [Act.put, List.setIfInBounds_toArray, List.set_cons_zero, List.set_cons_succ]
          refine skipH 10 22 ⟨_, rfl, rfl, rfl⟩ (by kernel_rfl) (by kernel_rfl) (by kernel_rfl) (fun _ _ _ h => h) hHeld ?_
          try simp only [Act.put, List.setIfInBounds_toArray, List.set_cons_zero, List.set_cons_succ]
          refine skipH 11 23 ⟨_, rfl, rfl, rfl⟩ (by kernel_rfl) (by kernel_rfl) (by kernel_rfl) (fun _ _ _ h => h) hHeld ?_
          try simp only [Act.put, List.setIfInBounds_toArray, List.set_cons_zero, List.set_cons_succ]
          refine skipH 12 24 ⟨_, rfl, rfl, rfl⟩ (by kernel_rfl) (by kernel_rfl) (by kernel_rfl) (fun _ _ _ h => h) hHeld ?_
          try simp only [Act.put, List.setIfInBounds_toArray, List.set_cons_zero, List.set_cons_succ]
          refine skipH 13 25 ⟨_, rfl, rfl, rfl⟩ (by kernel_rfl) (by kernel_rfl) (by kernel_rfl) (fun _ _ _ h => h) hHeld ?_
          try simp only [Act.put, List.setIfInBounds_toArray, List.set_cons_zero, List.set_cons_succ]
          refine skipH 14 26 ⟨_, rfl, rfl, rfl⟩ (by kernel_rfl) (by kernel_rfl) (by kernel_rfl) (fun _ _ _ h => h) hHeld ?_
          try simp only [Act.put, List.setIfInBounds_toArray, List.set_cons_zero, List.set_cons_succ]
          refine skipH 15 27 ⟨_, rfl, rfl, rfl⟩ (by kernel_rfl) (by kernel_rfl) (by kernel_rfl) (fun _ _ _ h => h) hHeld ?_
          try simp only [Act.put, List.setIfInBounds_toArray, List.set_cons_zero, List.set_cons_succ]
          refine takeH 16 28 (.bool false) ⟨_, rfl, rfl, rfl, ?_⟩ (by kernel_rfl) (by kernel_rfl) (by kernel_rfl) (fun _ _ _ h => h) hHeld ?_
          · intro w hSw; (try dsimp only at hSw); go_simp
          try simp only [Act.put, List.setIfInBounds_toArray, List.set_cons_zero, List.set_cons_succ]
          refine takeH 17 29 (.bool false) ⟨_, rfl, rfl, rfl, ?_⟩ (by kernel_rfl) (by kernel_rfl) (by kernel_rfl) (fun _ _ _ h => h) hHeld ?_
          · intro w hSw; (try dsimp only at hSw); go_simp
          try simp only [Act.put, List.setIfInBounds_toArray, List.set_cons_zero, List.set_cons_succ]
          refine wpAnyH_done (by kernel_rfl) ?_ _
          have hbx : Below w.heap.size w w3 := (hb.trans (hbw.mono hb.size)).drew.trans (hb3.mono (Nat.le_trans hb.size hbw.size))
          go_wp2
          go_roundw
          case rel => exact ⟨1, by omega, by go_num, steps_snoc HC.out HN.out, hbx⟩
          case measure => (simp [intOf]; try omega)
        · obtain ⟨k', rfl⟩ : ∃ k', k = k' + 1 := ⟨k - 1, by omega⟩
          obtain ⟨_, _, p, vp, hA, _, hy, hp, _, hps, _, _⟩ := (h.below hb (Nat.le_refl _)).at (k := k') (by omega)
          obtain ⟨rfl, rfl⟩ : b = _ ∧ off = _ := by injection hA with hA; injection hA; exact ⟨‹_›, ‹_›⟩
          clear hA
          have hst := step_next hx.out (p := ⟨p, vp⟩) (by simpa using hy.out) (by omega) hB
          have hd : decide ((0 : Int) < ((k' + 1 : Nat) : Int)) = true := decide_eq_true (by omega)
          have hi1 : ((k' + 1 : Nat) : Int) - 1 = (k' : Int) := by omega
          have hi2 : (0 : Int) ≤ (k' : Int) := by omega
          have hi3 : (k' : Int) < (n : Int) := by omega
          have hi4 : IntKind.i64.wrap (k' : Int) = (k' : Int) := IntWalk.i64_in _ (by omega)
          rcases str_ways p s with ⟨q1, q2, q3, q4, q5, q6, q7⟩ | ⟨q1, q2, q3, q4, q5, q6, q7⟩ | ⟨q1, q2, q3, q4, q5, q6, q7⟩
          · have HN := hide (steps_snoc HC.out (hst.trans q5))
            clear q1 q3 q5 q6 q7 hst
            go_wp2
            obtain ⟨w1, hw1⟩ : ∃ w1, w1 = wr.alloc (.cells #[.string s, .int .i64 v] 108) := ⟨_, rfl⟩
            rw [← hw1]
            have hbw : Below wr.heap.size wr w1 := hw1 ▸ (Below.refl _ _).alloc (Nat.le_refl _) _
            have c0 : w1.cell? ⟨wr.heap.size, 0, none⟩ = some (.string s) := by rw [hw1]; simp [go_sem]
            have c1 : w1.cell? ⟨wr.heap.size, 1, none⟩ = some (.int .i64 v) := by rw [hw1]; simp [go_sem]
            have hz : wr.heap.size < w1.heap.size := by rw [hw1]; simp
            clear hw1
            have cp : w1.cell? ⟨b, off + k' * 2, none⟩ = some (.string p) := (hbw.cell (p := ⟨b, off + k' * 2, none⟩) hbl).trans hp
            have hbz : b < w1.heap.size := by omega
            refine wp_region_held_drew (S := fun w' => w'.cell? ⟨wr.heap.size, 0, none⟩ = some (.string s) ∧ w'.cell? ⟨wr.heap.size, 1, none⟩ = some (.int .i64 v) ∧ w'.cell? ⟨b, off + k' * 2, none⟩ = some (.string p)) (by kernel_rfl) ⟨c0, c1, cp⟩ (fun hHeld => ?_)
            refine takeH 0 12 (.agg #[.string s, .int .i64 v]) ⟨_, rfl, rfl, rfl, ?_⟩ (by kernel_rfl) (by kernel_rfl) (by kernel_rfl) (fun _ _ _ h => h) hHeld ?_
            · intro w hSw; (try dsimp only at hSw); go_simp
            try simp only [Act.put, List.setIfInBounds_toArray, List.set_cons_zero, List.set_cons_succ]
            refine wpAnyH_ready (rs := [1]) (by kernel_rfl) (by simp) ?_
            refine AllReadyH.cons rfl (fun K hK => ?_) AllReadyH.nil
            go_simp
            go_at_call 89; refine (validSetting_q _ _ _ _ hB hs1).mono ?_; rintro e w3 ⟨rfl, hb3⟩
            try go_wp2_with fail
            refine hK.out _ _ ⟨(hb3.cell (p := ⟨wr.heap.size, 0, none⟩) hz).trans c0, (hb3.cell (p := ⟨wr.heap.size, 1, none⟩) hz).trans c1, (hb3.cell (p := ⟨b, off + k' * 2, none⟩) hbz).trans cp⟩ (fun hHeld => ?_)
            clear hK K
            try simp only [Act.put, List.setIfInBounds_toArray, List.set_cons_zero, List.set_cons_succ]
            refine takeH 2 14 (.bool false) ⟨_, rfl, rfl, rfl, ?_⟩ (by kernel_rfl) (by kernel_rfl) (by kernel_rfl) (fun _ _ _ h => h) hHeld ?_
            · intro w hSw; (try dsimp only at hSw); go_simp
            try simp only [Act.put, List.setIfInBounds_toArray, List.set_cons_zero, List.set_cons_succ]
            refine takeH 3 15 (.bool false) ⟨_, rfl, rfl, rfl, ?_⟩ (by kernel_rfl) (by kernel_rfl) (by kernel_rfl) (fun _ _ _ h => h) hHeld ?_
            · intro w hSw; (try dsimp only at hSw); go_simp
            try simp only [Act.put, List.setIfInBounds_toArray, List.set_cons_zero, List.set_cons_succ]
            refine takeH 4 16 (.int .i64 ((k' + 1 : Nat) : Int)) ⟨_, rfl, rfl, rfl, ?_⟩ (by kernel_rfl) (by kernel_rfl) (by kernel_rfl) (fun _ _ _ h => h) hHeld ?_
            · intro w hSw; (try dsimp only at hSw); go_simp
            try simp only [Act.put, List.setIfInBounds_toArray, List.set_cons_zero, List.set_cons_succ]
            refine takeH 5 17 (.bool true) ⟨_, rfl, rfl, rfl, ?_⟩ (by kernel_rfl) (by kernel_rfl) (by kernel_rfl) (fun _ _ _ h => h) hHeld ?_
            · intro w hSw; (try dsimp only at hSw); go_simp
            try simp only [Act.put, List.setIfInBounds_toArray, List.set_cons_zero, List.set_cons_succ]
            refine takeH 6 18 (.bool true) ⟨_, rfl, rfl, rfl, ?_⟩ (by kernel_rfl) (by kernel_rfl) (by kernel_rfl) (fun _ _ _ h => h) hHeld ?_
            · intro w hSw; (try dsimp only at hSw); go_simp
            try simp only [Act.put, List.setIfInBounds_toArray, List.set_cons_zero, List.set_cons_succ]
            refine takeH 7 19 (.pointer (some ⟨wr.heap.size, 0, none⟩)) ⟨_, rfl, rfl, rfl, ?_⟩ (by kernel_rfl) (by kernel_rfl) (by kernel_rfl) (fun _ _ _ h => h) hHeld ?_
            · intro w hSw; (try dsimp only at hSw); go_simp
            try simp only [Act.put, List.setIfInBounds_toArray, List.set_cons_zero, List.set_cons_succ]
            refine takeH 8 20 (.string s) ⟨_, rfl, rfl, rfl, ?_⟩ (by kernel_rfl) (by kernel_rfl) (by kernel_rfl) (fun _ _ _ h => h) hHeld ?_
            · intro w hSw; (try dsimp only at hSw); go_simp
            try simp only [Act.put, List.setIfInBounds_toArray, List.set_cons_zero, List.set_cons_succ]
            refine takeH 9 21 (.slice (some ⟨b, off, none⟩) n c) ⟨_, rfl, rfl, rfl, ?_⟩ (by kernel_rfl) (by kernel_rfl) (by kernel_rfl) (fun _ _ _ h => h) hHeld ?_
            · intro w hSw; (try dsimp only at hSw); go_simp
            try simp only [Act.put, List.setIfInBounds_toArray, List.set_cons_zero, List.set_cons_succ]
            refine takeH 10 22 (.int .i64 ((k' + 1 : Nat) : Int)) ⟨_, rfl, rfl, rfl, ?_⟩ (by kernel_rfl) (by kernel_rfl) (by kernel_rfl) (fun _ _ _ h => h) hHeld ?_
            · intro w hSw; (try dsimp only at hSw); go_simp
            try simp only [Act.put, List.setIfInBounds_toArray, List.set_cons_zero, List.set_cons_succ]
            refine takeH 11 23 (.int .i64 (k' : Int)) ⟨_, rfl, rfl, rfl, ?_⟩ (by kernel_rfl) (by kernel_rfl) (by kernel_rfl) (fun _ _ _ h => h) hHeld ?_
            · intro w hSw; (try dsimp only at hSw); go_simp
            try simp only [Act.put, List.setIfInBounds_toArray, List.set_cons_zero, List.set_cons_succ]
            refine takeH 12 24 (.pointer (some ⟨b, off + k' * 2, none⟩)) ⟨_, rfl, rfl, rfl, ?_⟩ (by kernel_rfl) (by kernel_rfl) (by kernel_rfl) (fun _ _ _ h => h) hHeld ?_
            · intro w hSw; (try dsimp only at hSw); go_simp
            try simp only [Act.put, List.setIfInBounds_toArray, List.set_cons_zero, List.set_cons_succ]
            refine takeH 13 25 (.pointer (some ⟨b, off + k' * 2, none⟩)) ⟨_, rfl, rfl, rfl, ?_⟩ (by kernel_rfl) (by kernel_rfl) (by kernel_rfl) (fun _ _ _ h => h) hHeld ?_
            · intro w hSw; (try dsimp only at hSw); go_simp
            try simp only [Act.put, List.setIfInBounds_toArray, List.set_cons_zero, List.set_cons_succ]
            refine takeH 14 26 (.string p) ⟨_, rfl, rfl, rfl, ?_⟩ (by kernel_rfl) (by kernel_rfl) (by kernel_rfl) (fun _ _ _ h => h) hHeld ?_
            · intro w hSw; (try dsimp only at hSw); go_simp
            try simp only [Act.put, List.setIfInBounds_toArray, List.set_cons_zero, List.set_cons_succ]
            refine takeH 15 27 (.bool false) ⟨_, rfl, rfl, rfl, ?_⟩ (by kernel_rfl) (by kernel_rfl) (by kernel_rfl) (fun _ _ _ h => h) hHeld ?_
            · intro w hSw; (try dsimp only at hSw); go_simp
            try simp only [Act.put, List.setIfInBounds_toArray, List.set_cons_zero, List.set_cons_succ]
            refine takeH 16 28 (.bool false) ⟨_, rfl, rfl, rfl, ?_⟩ (by kernel_rfl) (by kernel_rfl) (by kernel_rfl) (fun _ _ _ h => h) hHeld ?_
            · intro w hSw; (try dsimp only at hSw); go_simp
            try simp only [Act.put, List.setIfInBounds_toArray, List.set_cons_zero, List.set_cons_succ]
            refine takeH 17 29 (.bool false) ⟨_, rfl, rfl, rfl, ?_⟩ (by kernel_rfl) (by kernel_rfl) (by kernel_rfl) (fun _ _ _ h => h) hHeld ?_
            · intro w hSw; (try dsimp only at hSw); go_simp
            try simp only [Act.put, List.setIfInBounds_toArray, List.set_cons_zero, List.set_cons_succ]
            refine wpAnyH_done (by kernel_rfl) ?_ _
            have hbx : Below w.heap.size w w3 := (hb.trans (hbw.mono hb.size)).drew.trans (hb3.mono (Nat.le_trans hb.size hbw.size))
            go_wp2
            go_roundw
            case rel => exact ⟨k' + 1 + 1, by omega, by go_num, HN, hbx⟩
            case measure => (simp [intOf]; try omega)
          all_goals
            have HN := hide (state_bad HL.out hlt (hst.trans q5))
            clear q1 q3 q5 q6 q7 hst
            go_wp2
            obtain ⟨w1, hw1⟩ : ∃ w1, w1 = wr.alloc (.cells #[.string s, .int .i64 v] 108) := ⟨_, rfl⟩
            rw [← hw1]
            have hbw : Below wr.heap.size wr w1 := hw1 ▸ (Below.refl _ _).alloc (Nat.le_refl _) _
            have c0 : w1.cell? ⟨wr.heap.size, 0, none⟩ = some (.string s) := by rw [hw1]; simp [go_sem]
            have c1 : w1.cell? ⟨wr.heap.size, 1, none⟩ = some (.int .i64 v) := by rw [hw1]; simp [go_sem]
            have hz : wr.heap.size < w1.heap.size := by rw [hw1]; simp
            clear hw1
            have cp : w1.cell? ⟨b, off + k' * 2, none⟩ = some (.string p) := (hbw.cell (p := ⟨b, off + k' * 2, none⟩) hbl).trans hp
            have hbz : b < w1.heap.size := by omega
            refine wp_region_held_drew (S := fun w' => w'.cell? ⟨wr.heap.size, 0, none⟩ = some (.string s) ∧ w'.cell? ⟨wr.heap.size, 1, none⟩ = some (.int .i64 v) ∧ w'.cell? ⟨b, off + k' * 2, none⟩ = some (.string p)) (by kernel_rfl) ⟨c0, c1, cp⟩ (fun hHeld => ?_)
            refine takeH 0 12 (.agg #[.string s, .int .i64 v]) ⟨_, rfl, rfl, rfl, ?_⟩ (by kernel_rfl) (by kernel_rfl) (by kernel_rfl) (fun _ _ _ h => h) hHeld ?_
            · intro w hSw; (try dsimp only at hSw); go_simp
            try simp only [Act.put, List.setIfInBounds_toArray, List.set_cons_zero, List.set_cons_succ]
            refine wpAnyH_ready (rs := [1]) (by kernel_rfl) (by simp) ?_
            refine AllReadyH.cons rfl (fun K hK => ?_) AllReadyH.nil
            go_simp
            go_at_call 89; refine (validSetting_q _ _ _ _ hB hs1).mono ?_; rintro e w3 ⟨rfl, hb3⟩
            try go_wp2_with fail
            refine hK.out _ _ ⟨(hb3.cell (p := ⟨wr.heap.size, 0, none⟩) hz).trans c0, (hb3.cell (p := ⟨wr.heap.size, 1, none⟩) hz).trans c1, (hb3.cell (p := ⟨b, off + k' * 2, none⟩) hbz).trans cp⟩ (fun hHeld => ?_)
            clear hK K
            try simp only [Act.put, List.setIfInBounds_toArray, List.set_cons_zero, List.set_cons_succ]
            refine takeH 2 14 (.bool false) ⟨_, rfl, rfl, rfl, ?_⟩ (by kernel_rfl) (by kernel_rfl) (by kernel_rfl) (fun _ _ _ h => h) hHeld ?_
            · intro w hSw; (try dsimp only at hSw); go_simp
            try simp only [Act.put, List.setIfInBounds_toArray, List.set_cons_zero, List.set_cons_succ]
            refine takeH 3 15 (.bool false) ⟨_, rfl, rfl, rfl, ?_⟩ (by kernel_rfl) (by kernel_rfl) (by kernel_rfl) (fun _ _ _ h => h) hHeld ?_
            · intro w hSw; (try dsimp only at hSw); go_simp
            try simp only [Act.put, List.setIfInBounds_toArray, List.set_cons_zero, List.set_cons_succ]
            refine takeH 4 16 (.int .i64 ((k' + 1 : Nat) : Int)) ⟨_, rfl, rfl, rfl, ?_⟩ (by kernel_rfl) (by kernel_rfl) (by kernel_rfl) (fun _ _ _ h => h) hHeld ?_
            · intro w hSw; (try dsimp only at hSw); go_simp
            try simp only [Act.put, List.setIfInBounds_toArray, List.set_cons_zero, List.set_cons_succ]
            refine takeH 5 17 (.bool true) ⟨_, rfl, rfl, rfl, ?_⟩ (by kernel_rfl) (by kernel_rfl) (by kernel_rfl) (fun _ _ _ h => h) hHeld ?_
            · intro w hSw; (try dsimp only at hSw); go_simp
            try simp only [Act.put, List.setIfInBounds_toArray, List.set_cons_zero, List.set_cons_succ]
            refine takeH 6 18 (.bool true) ⟨_, rfl, rfl, rfl, ?_⟩ (by kernel_rfl) (by kernel_rfl) (by kernel_rfl) (fun _ _ _ h => h) hHeld ?_
            · intro w hSw; (try dsimp only at hSw); go_simp
            try simp only [Act.put, List.setIfInBounds_toArray, List.set_cons_zero, List.set_cons_succ]
            refine takeH 7 19 (.pointer (some ⟨wr.heap.size, 0, none⟩)) ⟨_, rfl, rfl, rfl, ?_⟩ (by kernel_rfl) (by kernel_rfl) (by kernel_rfl) (fun _ _ _ h => h) hHeld ?_
            · intro w hSw; (try dsimp only at hSw); go_simp
            try simp only [Act.put, List.setIfInBounds_toArray, List.set_cons_zero, List.set_cons_succ]
            refine takeH 8 20 (.string s) ⟨_, rfl, rfl, rfl, ?_⟩ (by kernel_rfl) (by kernel_rfl) (by kernel_rfl) (fun _ _ _ h => h) hHeld ?_
            · intro w hSw; (try dsimp only at hSw); go_simp
            try simp only [Act.put, List.setIfInBounds_toArray, List.set_cons_zero, List.set_cons_succ]
            refine takeH 9 21 (.slice (some ⟨b, off, none⟩) n c) ⟨_, rfl, rfl, rfl, ?_⟩ (by kernel_rfl) (by kernel_rfl) (by kernel_rfl) (fun _ _ _ h => h) hHeld ?_
            · intro w hSw; (try dsimp only at hSw); go_simp
            try simp only [Act.put, List.setIfInBounds_toArray, List.set_cons_zero, List.set_cons_succ]
            refine takeH 10 22 (.int .i64 ((k' + 1 : Nat) : Int)) ⟨_, rfl, rfl, rfl, ?_⟩ (by kernel_rfl) (by kernel_rfl) (by kernel_rfl) (fun _ _ _ h => h) hHeld ?_
            · intro w hSw; (try dsimp only at hSw); go_simp
            try simp only [Act.put, List.setIfInBounds_toArray, List.set_cons_zero, List.set_cons_succ]
            refine takeH 11 23 (.int .i64 (k' : Int)) ⟨_, rfl, rfl, rfl, ?_⟩ (by kernel_rfl) (by kernel_rfl) (by kernel_rfl) (fun _ _ _ h => h) hHeld ?_
            · intro w hSw; (try dsimp only at hSw); go_simp
            try simp only [Act.put, List.setIfInBounds_toArray, List.set_cons_zero, List.set_cons_succ]
            refine takeH 12 24 (.pointer (some ⟨b, off + k' * 2, none⟩)) ⟨_, rfl, rfl, rfl, ?_⟩ (by kernel_rfl) (by kernel_rfl) (by kernel_rfl) (fun _ _ _ h => h) hHeld ?_
            · intro w hSw; (try dsimp only at hSw); go_simp
            try simp only [Act.put, List.setIfInBounds_toArray, List.set_cons_zero, List.set_cons_succ]
            refine takeH 13 25 (.pointer (some ⟨b, off + k' * 2, none⟩)) ⟨_, rfl, rfl, rfl, ?_⟩ (by kernel_rfl) (by kernel_rfl) (by kernel_rfl) (fun _ _ _ h => h) hHeld ?_
            · intro w hSw; (try dsimp only at hSw); go_simp
            try simp only [Act.put, List.setIfInBounds_toArray, List.set_cons_zero, List.set_cons_succ]
            refine takeH 14 26 (.string p) ⟨_, rfl, rfl, rfl, ?_⟩ (by kernel_rfl) (by kernel_rfl) (by kernel_rfl) (fun _ _ _ h => h) hHeld ?_
            · intro w hSw; (try dsimp only at hSw); go_simp
            try simp only [Act.put, List.setIfInBounds_toArray, List.set_cons_zero, List.set_cons_succ]
            refine takeH 15 27 (.bool true) ⟨_, rfl, rfl, rfl, ?_⟩ (by kernel_rfl) (by kernel_rfl) (by kernel_rfl) (fun _ _ _ h => h) hHeld ?_
            · intro w hSw; (try dsimp only at hSw); go_simp
            try simp only [Act.put, List.setIfInBounds_toArray, List.set_cons_zero, List.set_cons_succ]
            refine takeH 16 28 (.bool true) ⟨_, rfl, rfl, rfl, ?_⟩ (by kernel_rfl) (by kernel_rfl) (by kernel_rfl) (fun _ _ _ h => h) hHeld ?_
            · intro w hSw; (try dsimp only at hSw); go_simp
            try simp only [Act.put, List.setIfInBounds_toArray, List.set_cons_zero, List.set_cons_succ]
            refine takeH 17 29 (.bool true) ⟨_, rfl, rfl, rfl, ?_⟩ (by kernel_rfl) (by kernel_rfl) (by kernel_rfl) (fun _ _ _ h => h) hHeld ?_
            · intro w hSw; (try dsimp only at hSw); go_simp
            try simp only [Act.put, List.setIfInBounds_toArray, List.set_cons_zero, List.set_cons_succ]
            refine wpAnyH_done (by kernel_rfl) ?_ _
            have hbx : Below w.heap.size w w3 := (hb.trans (hbw.mono hb.size)).drew.trans (hb3.mono (Nat.le_trans hb.size hbw.size))
            go_wp2
            go_ret
            exact ⟨ret_bool HN.out.symm, hbx⟩
    · have hkn : k = n := by omega
      have HN := hide (state_end HL.out (hkn ▸ HC.out))
      clear HC
      go_wp2
      go_ret
      exact ⟨ret_bool HN.out.symm, hb⟩


end Go.Proofs.YtlomloepdnojoaaDoor
