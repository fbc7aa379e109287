/- Comparing grants: cmp.Compare over int64, cmp.Or, compareGrants, l28Before. -/
import Derived.Test.YtidhbpnibgegdaaCmpS
import Derived.Test.YtidhbpnibgegdaaRightsZ
import Derived.Deep.RegionHeld3
namespace Go.Proofs.Ytidhbpnibgegdaa
open Go.RowKit
set_option linter.unusedVariables false

def cmpI (x y : Int) : Int := if x < y then -1 else if y < x then 1 else 0

theorem isNaNI_calls (x : Int) (w : World) : Calls Try.prog 118 #[.int .i64 x] w fun e w' => e = .returned (.bool false) ∧ w = w' := by
  go_enter Try.func118, Try.ntmps118
  go_wp2
  go_ret
  exact ⟨by simp, rfl⟩

set_option maxHeartbeats 400000 in
theorem compareI_calls (x y : Int) (w : World) : Calls Try.prog 103 #[.int .i64 x, .int .i64 y] w fun e w' => e = .returned (.int .i64 (cmpI x y)) ∧ w = w' := by
  rcases Int.lt_trichotomy x y with h | h | h
  · have HH : Hid (cmpI x y = -1) := by unfold Hid cmpI; rw [if_pos h]
    go_enter Try.func103, Try.ntmps103
    go_wp2_with (go_at_call 118; refine (isNaNI_calls _ _).mono ?_; rintro e w' ⟨rfl, rfl⟩)
    go_ret
    exact ⟨ret_int HH.out.symm, rfl⟩
  · have HH : Hid (cmpI x y = 0) := by unfold Hid cmpI; rw [if_neg (by omega), if_neg (by omega)]
    have h1 : ¬ x < y := by omega
    have h2 : ¬ y < x := by omega
    clear h
    go_enter Try.func103, Try.ntmps103
    go_wp2_with (go_at_call 118; refine (isNaNI_calls _ _).mono ?_; rintro e w' ⟨rfl, rfl⟩)
    go_ret
    exact ⟨ret_int HH.out.symm, rfl⟩
  · have HH : Hid (cmpI x y = 1) := by unfold Hid cmpI; rw [if_neg (by omega), if_pos h]
    have h1 : ¬ x < y := by omega
    go_enter Try.func103, Try.ntmps103
    go_wp2_with (go_at_call 118; refine (isNaNI_calls _ _).mono ?_; rintro e w' ⟨rfl, rfl⟩)
    go_ret
    exact ⟨ret_int HH.out.symm, rfl⟩

/-- The first that is not 0. -/
def orZ (x y z : Int) : Int := if x = 0 then (if y = 0 then z else y) else x

set_option maxHeartbeats 1000000 in
theorem or3_calls (b : Nat) (x y z : Int) (w : World) (h0 : w.cell? ⟨b, 0, none⟩ = some (.int .i64 x)) (h1 : w.cell? ⟨b, 1, none⟩ = some (.int .i64 y)) (h2 : w.cell? ⟨b, 2, none⟩ = some (.int .i64 z)) :
    Calls Try.prog 101 #[.slice (some ⟨b, 0, none⟩) 3 3] w fun e w' => e = .returned (.int .i64 (orZ x y z)) ∧ w = w' := by
  have HZ : Hid (orZ x y z = if x = 0 then (if y = 0 then z else y) else x) := rfl
  by_cases hx : x = 0
  · subst hx
    by_cases hy : y = 0
    · subst hy
      by_cases hz : z = 0
      · subst hz
        go_enter Try.func101, Try.ntmps101
        go_wp2
        refine wp_loop_rounds 4 ?_
        iterate 4
          rw [rounds_succ]
          go_wp2
        go_ret
        exact ⟨ret_int (by rw [HZ.out]; simp), rfl⟩
      · have e1 : (z != 0) = true := by simpa using hz
        go_enter Try.func101, Try.ntmps101
        go_wp2
        refine wp_loop_rounds 4 ?_
        iterate 3
          rw [rounds_succ]
          go_wp2
        go_ret
        exact ⟨ret_int (by rw [HZ.out]; simp), rfl⟩
    · have e1 : (y != 0) = true := by simpa using hy
      go_enter Try.func101, Try.ntmps101
      go_wp2
      refine wp_loop_rounds 4 ?_
      iterate 2
        rw [rounds_succ]
        go_wp2
      go_ret
      exact ⟨ret_int (by rw [HZ.out]; simp [hy]), rfl⟩
  · have e1 : (x != 0) = true := by simpa using hx
    go_enter Try.func101, Try.ntmps101
    go_wp2
    refine wp_loop_rounds 4 ?_
    rw [rounds_succ]
    go_wp2
    go_ret
    exact ⟨ret_int (by rw [HZ.out]; simp [hx]), rfl⟩

def cmpG (a b : GrantZ) : Int := orZ (cmpS a.role b.role) (cmpS a.object b.object) (cmpI a.action b.action)
theorem cmpG_less {a b : GrantZ} (h : gLess a b = true) : cmpG a b = -1 := by
  unfold gLess at h
  unfold cmpG orZ
  rcases cmpS_ways a.role b.role with ⟨q1, q2, q3, q4⟩ | ⟨q1, q2, q3, q4⟩ | ⟨q1, q2, q3, q4⟩
  · rw [q4]; simp
  · rw [q4, if_pos rfl]
    rw [if_pos q3] at h
    rcases cmpS_ways a.object b.object with ⟨p1, p2, p3, p4⟩ | ⟨p1, p2, p3, p4⟩ | ⟨p1, p2, p3, p4⟩
    · rw [p4]; simp
    · rw [p4, if_pos rfl]
      rw [if_pos p3] at h
      have := of_decide_eq_true h
      unfold cmpI
      rw [if_pos this]
    · rw [if_neg p3, p1] at h
      cases h
  · rw [if_neg q3, q1] at h
    cases h
theorem cmpG_same (a : GrantZ) : cmpG a a = 0 := by
  unfold cmpG orZ cmpS cmpI
  simp [strLess_irrefl]
theorem cmpG_more {a b : GrantZ} (h : gLess b a = true) : cmpG a b = 1 := by
  unfold gLess at h
  unfold cmpG orZ
  rcases cmpS_ways a.role b.role with ⟨q1, q2, q3, q4⟩ | ⟨q1, q2, q3, q4⟩ | ⟨q1, q2, q3, q4⟩
  · rw [if_neg (fun e => q3 e.symm), q2] at h
    cases h
  · rw [q4, if_pos rfl]
    rw [if_pos q3.symm] at h
    rcases cmpS_ways a.object b.object with ⟨p1, p2, p3, p4⟩ | ⟨p1, p2, p3, p4⟩ | ⟨p1, p2, p3, p4⟩
    · rw [if_neg (fun e => p3 e.symm), p2] at h
      cases h
    · rw [p4, if_pos rfl]
      rw [if_pos p3.symm] at h
      have := of_decide_eq_true h
      unfold cmpI
      rw [if_neg (by omega), if_pos this]
    · rw [p4]; simp
  · rw [q4]; simp
/-- The three ways in which two grants stand. -/
theorem cmpG_ways (a b : GrantZ) : (gLess a b = true ∧ gLess b a = false ∧ a ≠ b ∧ cmpG a b = -1) ∨ (gLess a b = false ∧ gLess b a = false ∧ a = b ∧ cmpG a b = 0) ∨ (gLess a b = false ∧ gLess b a = true ∧ a ≠ b ∧ cmpG a b = 1) := by
  rcases b_cases (gLess a b) with e | e
  · rcases b_cases (gLess b a) with e' | e'
    · have := gLess_total e e'
      subst this
      exact .inr (.inl ⟨e, e, rfl, cmpG_same _⟩)
    · exact .inr (.inr ⟨e, e', (fun h => gLess_ne e' h.symm), cmpG_more e'⟩)
  · exact .inl ⟨e, gLess_asymm e, gLess_ne e, cmpG_less e⟩

set_option maxHeartbeats 2000000 in
theorem compareGrants_calls (a b : GrantZ) (w : World) :
    Calls Try.prog 70 #[.agg #[.string a.role, .string a.object, .int .i64 a.action], .agg #[.string b.role, .string b.object, .int .i64 b.action]] w fun e w' => e = .returned (.int .i64 (cmpG a b)) ∧ Below w.heap.size w w' := by
  obtain ⟨r1, o1, a1⟩ := a
  obtain ⟨r2, o2, a2⟩ := b
  simp only
  obtain ⟨W0, hW0⟩ : ∃ W0, W0 = ((w.alloc (.cells #[.string r1, .string o1, .int .i64 a1] 49)).alloc (.cells #[.string r2, .string o2, .int .i64 a2] 49)) := ⟨_, rfl⟩
  have hB : Below w.heap.size w W0 := by rw [hW0]; exact ((Below.refl _ _).alloc (Nat.le_refl _) _).alloc (by simp) _
  have c0 : W0.cell? ⟨w.heap.size, 0, none⟩ = some (.string r1) := by rw [hW0]; simp
  have c1 : W0.cell? ⟨w.heap.size, 1, none⟩ = some (.string o1) := by rw [hW0]; simp
  have c2 : W0.cell? ⟨w.heap.size, 2, none⟩ = some (.int .i64 a1) := by rw [hW0]; simp
  have d0 : W0.cell? ⟨w.heap.size + 1, 0, none⟩ = some (.string r2) := by rw [hW0]; simp
  have d1 : W0.cell? ⟨w.heap.size + 1, 1, none⟩ = some (.string o2) := by rw [hW0]; simp
  have d2 : W0.cell? ⟨w.heap.size + 1, 2, none⟩ = some (.int .i64 a2) := by rw [hW0]; simp
  have hz : w.heap.size + 1 < W0.heap.size := by rw [hW0]; simp
  have HC : Hid (cmpG ⟨r1, o1, a1⟩ ⟨r2, o2, a2⟩ = orZ (cmpS r1 r2) (cmpS o1 o2) (cmpI a1 a2)) := rfl
  have HB := hide hB
  clear hB
  go_enter Try.func70, Try.ntmps70
  go_wp2_with fail
  rw [← hW0]
  clear hW0
  go_region_held3 (fun w' => w'.cell? ⟨w.heap.size, 0, none⟩ = some (.string r1) ∧ w'.cell? ⟨w.heap.size, 1, none⟩ = some (.string o1) ∧ w'.cell? ⟨w.heap.size, 2, none⟩ = some (.int .i64 a1) ∧ w'.cell? ⟨w.heap.size + 1, 0, none⟩ = some (.string r2) ∧ w'.cell? ⟨w.heap.size + 1, 1, none⟩ = some (.string o2) ∧ w'.cell? ⟨w.heap.size + 1, 2, none⟩ = some (.int .i64 a2))
    (first | exact ⟨c0, c1, c2, d0, d1, d2⟩ | (have hbq := (Below.refl W0.drew.heap.size W0.drew).alloc (Nat.le_refl _) (.cells #[.int .i64 (cmpS r1 r2), .int .i64 (cmpS o1 o2), .int .i64 (cmpI a1 a2)] 3); exact ⟨(hbq.cell (p := ⟨w.heap.size, 0, none⟩) (by simp; omega)).trans c0, (hbq.cell (p := ⟨w.heap.size, 1, none⟩) (by simp; omega)).trans c1, (hbq.cell (p := ⟨w.heap.size, 2, none⟩) (by simp; omega)).trans c2, (hbq.cell (p := ⟨w.heap.size + 1, 0, none⟩) (by simp; omega)).trans d0, (hbq.cell (p := ⟨w.heap.size + 1, 1, none⟩) (by simp; omega)).trans d1, (hbq.cell (p := ⟨w.heap.size + 1, 2, none⟩) (by simp; omega)).trans d2⟩))
    (first | (go_at_call 102; refine (compareS_calls _ _ _).mono ?_; rintro e w1 ⟨rfl, rfl⟩) | (go_at_call 103; refine (compareI_calls _ _ _).mono ?_; rintro e w1 ⟨rfl, rfl⟩) | (go_at_call 101; refine (or3_calls _ (cmpS r1 r2) (cmpS o1 o2) (cmpI a1 a2) _ (by simp) (by simp) (by simp)).mono ?_; rintro e w1 ⟨rfl, rfl⟩))
  go_wp2
  go_ret
  exact ⟨ret_int HC.out.symm, HB.out.drew.alloc (by simp; omega) _⟩

set_option maxHeartbeats 2000000 in
theorem l28Before_calls (x y : GrantZ) (b off b' off' : Nat) (w : World) (h0 : w.cell? ⟨b, off, none⟩ = some (.string x.role)) (h1 : w.cell? ⟨b, off + 1, none⟩ = some (.string x.object)) (h2 : w.cell? ⟨b, off + 2, none⟩ = some (.int .i64 x.action))
    (g0 : w.cell? ⟨b', off', none⟩ = some (.string y.role)) (g1 : w.cell? ⟨b', off' + 1, none⟩ = some (.string y.object)) (g2 : w.cell? ⟨b', off' + 2, none⟩ = some (.int .i64 y.action)) :
    Calls Try.prog 90 #[.pointer (some ⟨b, off, none⟩), .pointer (some ⟨b', off', none⟩)] w fun e w' => e = .returned (.bool (gLess x y)) ∧ ∃ m, w' = w.drewN m := by
  obtain ⟨r1, o1, a1⟩ := x
  obtain ⟨r2, o2, a2⟩ := y
  simp only at *
  have HG : Hid (gLess ⟨r1, o1, a1⟩ ⟨r2, o2, a2⟩ = if r1 = r2 then (if o1 = o2 then decide (a1 < a2) else strLess o1 o2) else strLess r1 r2) := rfl
  by_cases er : r1 = r2
  · subst er
    have e1 : (r1.toList == r1.toList) = true := by simp
    have e2 : (r1.toList != r1.toList) = false := by simp
    by_cases eo : o1 = o2
    · subst eo
      have e3 : (o1.toList == o1.toList) = true := by simp
      have e4 : (o1.toList != o1.toList) = false := by simp
      go_enter Try.func90, Try.ntmps90
      go_wp2
      go_quiet (fail)
      go_wp2
      go_quiet (fail)
      go_wp2
      go_quiet (fail)
      go_wp2
      go_ret
      exact ⟨ret_bool (by rw [HG.out]; simp), by first | exact ⟨_, rfl⟩ | exact drewN2 _ _ _ | (simp only [World.drewN_drewN]; exact ⟨_, rfl⟩)⟩
    · obtain ⟨e3, e4⟩ := str_ne eo
      have HE := hide eo
      clear eo
      go_enter Try.func90, Try.ntmps90
      go_wp2
      go_quiet (fail)
      go_wp2
      go_quiet (fail)
      go_wp2
      go_quiet (fail)
      go_wp2
      go_ret
      exact ⟨ret_bool (by rw [HG.out]; simp [HE.out]; rfl), by first | exact ⟨_, rfl⟩ | exact drewN2 _ _ _ | (simp only [World.drewN_drewN]; exact ⟨_, rfl⟩)⟩
  · obtain ⟨e1, e2⟩ := str_ne er
    have HE := hide er
    clear er
    go_enter Try.func90, Try.ntmps90
    go_wp2
    go_quiet (fail)
    go_wp2
    go_quiet (fail)
    go_wp2
    go_ret
    exact ⟨ret_bool (by rw [HG.out]; simp [HE.out]; rfl), by first | exact ⟨_, rfl⟩ | exact drewN2 _ _ _ | (simp only [World.drewN_drewN]; exact ⟨_, rfl⟩)⟩

end Go.Proofs.Ytidhbpnibgegdaa
