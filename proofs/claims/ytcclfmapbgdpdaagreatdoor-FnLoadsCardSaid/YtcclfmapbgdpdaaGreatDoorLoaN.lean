/- need, plus, fits, validGroup, ValidRoom of the program; l17Kilos, l17One, l17Room of the reference. -/
import Derived.Test.YtcclfmapbgdpdaaGreatDoorLoaK
import Derived.Test.YtcclfmapbgdpdaaGreatDoorMg
import Derived.Test.YtcclfmapbgdpdaaGreatDoorCell3
namespace Go.Proofs.YtcclfmapbgdpdaaGreatDoor
open Go.RowKit
set_option linter.unusedVariables false

/-- A room as a value. -/
abbrev rmV (r : RmZ) : Value := .agg #[.int .i64 r.p, .int .i64 r.b, .int .i64 r.k]
abbrev grV (x : GrpZ) : Value := .agg #[.string x.id, .int .i64 x.p, .int .i64 x.b, .int .i64 x.k]
/-- Not negative, not too large. -/
def SmR (r : RmZ) : Prop := (0 ≤ r.p ∧ r.p ≤ 100000000) ∧ (0 ≤ r.b ∧ r.b ≤ 100000000) ∧ (0 ≤ r.k ∧ r.k ≤ 100000000)

set_option maxHeartbeats 1000000 in
theorem need_calls (s : ByteArray) (p b k : Int) (w : World) (hp : 0 ≤ p ∧ p ≤ 200) (hb : 0 ≤ b ∧ b ≤ 40) (hk : 0 ≤ k ∧ k ≤ 100000) :
    Calls Tryz.prog 135 #[.agg #[.string s, .int .i64 p, .int .i64 b, .int .i64 k]] w fun e w' => e = .returned (.agg #[.int .i64 p, .int .i64 b, .int .i64 (75 * p + 15 * b + k)]) ∧ Below w.heap.size w w' := by
  go_enter Tryz.func135, Tryz.ntmps135
  go_wp2_with fail
  refine bodyPost_ret (v := .agg #[.int .i64 p, .int .i64 b, .int .i64 (75 * p + 15 * b + k)]) (by simp [results, Tryz.results135, go_sem]) rfl ?_
  exact ⟨rfl, ((Below.refl w.heap.size w).alloc (Nat.le_refl _) _).alloc (by simp) _⟩

set_option maxHeartbeats 1000000 in
theorem plus_calls (p b k p' b' k' : Int) (w : World) (h1 : SmR ⟨p, b, k⟩) (h2 : SmR ⟨p', b', k'⟩) :
    Calls Tryz.prog 134 #[.agg #[.int .i64 p, .int .i64 b, .int .i64 k], .agg #[.int .i64 p', .int .i64 b', .int .i64 k']] w fun e w' => e = .returned (.agg #[.int .i64 (p + p'), .int .i64 (b + b'), .int .i64 (k + k')]) ∧ Below w.heap.size w w' := by
  unfold SmR at h1 h2
  simp only at h1 h2
  go_enter Tryz.func134, Tryz.ntmps134
  go_wp2_with fail
  refine bodyPost_ret (v := .agg #[.int .i64 (p + p'), .int .i64 (b + b'), .int .i64 (k + k')]) (by simp [results, Tryz.results134, go_sem]) rfl ?_
  exact ⟨rfl, (((Below.refl w.heap.size w).alloc (Nat.le_refl _) _).alloc (by simp) _).alloc (by simp; omega) _⟩

set_option maxHeartbeats 2000000 in
theorem fits_calls (p b k p' b' k' : Int) (w : World) :
    Calls Tryz.prog 136 #[.agg #[.int .i64 p, .int .i64 b, .int .i64 k], .agg #[.int .i64 p', .int .i64 b', .int .i64 k']] w fun e w' => e = .returned (.bool (fitsZ ⟨p, b, k⟩ ⟨p', b', k'⟩)) ∧ Below w.heap.size w w' := by
  have HF : Hid (fitsZ ⟨p, b, k⟩ ⟨p', b', k'⟩ = (decide (p ≤ p') && decide (b ≤ b') && decide (k ≤ k'))) := rfl
  have HB := hide (((Below.refl w.heap.size w).alloc (Nat.le_refl _) (.cells #[.int .i64 p, .int .i64 b, .int .i64 k] 87)).alloc (by simp) (.cells #[.int .i64 p', .int .i64 b', .int .i64 k'] 87))
  rw [HF.out]
  go_enter Tryz.func136, Tryz.ntmps136
  by_cases h1 : p ≤ p'
  case neg =>
    have d1 := decide_eq_false h1
    go_wp2
    go_ret
    exact ⟨rfl, HB.out⟩
  have d1 := decide_eq_true h1
  by_cases h2 : b ≤ b'
  case neg =>
    have d2 := decide_eq_false h2
    go_wp2
    go_ret
    exact ⟨rfl, HB.out⟩
  have d2 := decide_eq_true h2
  go_wp2
  go_ret
  exact ⟨ret_bool (by rw [d1, d2]; rfl), HB.out⟩

/-- What a valid group is. -/
theorem grp_ok {s : ByteArray} {p b k : Int} (h : grpB ⟨s, p, b, k⟩ = true) : nameB s = true ∧ (withinB p 1 200 = true ∧ withinB b 0 40 = true ∧ withinB k 0 100000 = true) ∧ s.size ≤ 10 ∧ (1 ≤ p ∧ p ≤ 200) ∧ (0 ≤ b ∧ b ≤ 40) ∧ (0 ≤ k ∧ k ≤ 100000) := by
  unfold grpB at h
  simp only [Bool.and_eq_true] at h
  obtain ⟨h1, h2, h3, h4⟩ := h
  refine ⟨h1, ⟨h2, h3, h4⟩, ?_, withinB_iff.1 h2, withinB_iff.1 h3, withinB_iff.1 h4⟩
  unfold nameB at h1
  simp only [Bool.and_eq_true, decide_eq_true_eq] at h1
  exact h1.1.1.2
theorem room_ok {r : RmZ} (h : roomB r = true) : (withinB r.p 0 200 = true ∧ withinB r.b 0 40 = true ∧ withinB r.k 0 100000 = true) ∧ (0 ≤ r.p ∧ r.p ≤ 200) ∧ (0 ≤ r.b ∧ r.b ≤ 40) ∧ (0 ≤ r.k ∧ r.k ≤ 100000) := by
  unfold roomB at h
  simp only [Bool.and_eq_true] at h
  obtain ⟨h2, h3, h4⟩ := h
  exact ⟨⟨h2, h3, h4⟩, withinB_iff.1 h2, withinB_iff.1 h3, withinB_iff.1 h4⟩

theorem isKilos_calls (n : Int) (w : World) : Calls Tryz.prog 140 #[.int .i64 n] w fun e w' => e = .returned (.bool (withinB n 0 100000)) ∧ w = w' := by
  have H := hide (within_calls n 0 100000 w)
  go_enter Tryz.func140, Tryz.ntmps140
  go_wp2_with fail
  refine H.out.mono ?_
  rintro e w' ⟨rfl, rfl⟩
  go_wp2
  go_ret
  exact ⟨rfl, rfl⟩

set_option maxHeartbeats 2000000 in
theorem validGroup_calls (s : ByteArray) (p b k : Int) (w : World) (hv : grpB ⟨s, p, b, k⟩ = true) :
    Calls Tryz.prog 139 #[.agg #[.string s, .int .i64 p, .int .i64 b, .int .i64 k]] w fun e w' => e = .returned (.bool true) ∧ Below w.heap.size w w' := by
  obtain ⟨h1, ⟨h2, h3, h4⟩, hs, _⟩ := grp_ok hv
  obtain ⟨W, hW⟩ : ∃ W, W = w.alloc (.cells #[.string s, .int .i64 p, .int .i64 b, .int .i64 k] 98) := ⟨_, rfl⟩
  have hB : Below w.heap.size w W := by rw [hW]; exact (Below.refl _ _).alloc (Nat.le_refl _) _
  have hz : w.heap.size < W.heap.size := by rw [hW]; simp
  have HC : Hid (∀ W', Below W.heap.size W W' → W'.cell? ⟨w.heap.size, 1, none⟩ = some (.int .i64 p) ∧ W'.cell? ⟨w.heap.size, 2, none⟩ = some (.int .i64 b) ∧ W'.cell? ⟨w.heap.size, 3, none⟩ = some (.int .i64 k)) := fun W' hb =>
    ⟨(hb.cell (p := ⟨w.heap.size, 1, none⟩) hz).trans (by rw [hW]; simp), (hb.cell (p := ⟨w.heap.size, 2, none⟩) hz).trans (by rw [hW]; simp), (hb.cell (p := ⟨w.heap.size, 3, none⟩) hz).trans (by rw [hW]; simp)⟩
  have c0 : W.cell? ⟨w.heap.size, 0, none⟩ = some (.string s) := by rw [hW]; simp
  have HN := hide (isName_calls s W (by omega))
  rw [h1] at HN
  have H1 := hide (fun w => within_calls p 1 200 w)
  have H2 := hide (fun w => within_calls b 0 40 w)
  have H3 := hide (fun w => isKilos_calls k w)
  simp only [h2] at H1
  simp only [h3] at H2
  simp only [h4] at H3
  clear hv h1 h2 h3 h4
  go_enter Tryz.func139, Tryz.ntmps139
  go_wp2_with fail
  rw [← hW]
  clear hW
  go_wp2_with fail
  refine HN.out.mono ?_
  rintro e w2 ⟨rfl, hb2⟩
  obtain ⟨c1, c2, c3⟩ := HC.out w2 hb2
  clear c0
  go_wp2_with fail
  refine (H1.out _).mono ?_
  rintro e w' ⟨rfl, rfl⟩
  go_wp2_with fail
  refine (H2.out _).mono ?_
  rintro e w' ⟨rfl, rfl⟩
  go_wp2_with fail
  refine (H3.out _).mono ?_
  rintro e w' ⟨rfl, rfl⟩
  go_wp2
  go_ret
  exact ⟨rfl, hB.trans (hb2.mono hB.size)⟩

set_option maxHeartbeats 2000000 in
theorem implValidRoom_calls (r : RmZ) (w : World) (hv : roomB r = true) :
    Calls Tryz.prog 59 #[rmV r] w fun e w' => e = .returned (.bool true) ∧ Below w.heap.size w w' := by
  obtain ⟨⟨h2, h3, h4⟩, _⟩ := room_ok hv
  obtain ⟨p, b, k⟩ := r
  simp only at h2 h3 h4
  have H1 := hide (fun w => within_calls p 0 200 w)
  have H2 := hide (fun w => within_calls b 0 40 w)
  have H3 := hide (fun w => isKilos_calls k w)
  simp only [h2] at H1
  simp only [h3] at H2
  simp only [h4] at H3
  have HB := hide ((Below.refl w.heap.size w).alloc (Nat.le_refl _) (.cells #[.int .i64 p, .int .i64 b, .int .i64 k] 87))
  clear hv h2 h3 h4
  go_enter Tryz.func59, Tryz.ntmps59
  go_wp2_with fail
  refine (H1.out _).mono ?_
  rintro e w' ⟨rfl, rfl⟩
  go_wp2_with fail
  refine (H2.out _).mono ?_
  rintro e w' ⟨rfl, rfl⟩
  go_wp2_with fail
  refine (H3.out _).mono ?_
  rintro e w' ⟨rfl, rfl⟩
  go_wp2
  go_ret
  exact ⟨rfl, HB.out⟩

set_option maxHeartbeats 2000000 in
theorem l17Room_calls (p b k : Int) (B q : Nat) (w : World) (hv : roomB ⟨p, b, k⟩ = true) (c0 : w.cell? ⟨B, q, none⟩ = some (.int .i64 p)) (c1 : w.cell? ⟨B, q + 1, none⟩ = some (.int .i64 b)) (c2 : w.cell? ⟨B, q + 2, none⟩ = some (.int .i64 k)) :
    Calls Tryz.prog 142 #[.pointer (some ⟨B, q, none⟩)] w fun e w' => e = .returned (.bool true) ∧ w = w' := by
  obtain ⟨⟨h2, h3, h4⟩, _⟩ := room_ok hv
  simp only at h2 h3 h4
  have H1 := hide (fun w => l00In_calls p 0 200 w)
  have H2 := hide (fun w => l00In_calls b 0 40 w)
  have H3 := hide (fun w => l00In_calls k 0 100000 w)
  simp only [h2] at H1
  simp only [h3] at H2
  simp only [h4] at H3
  clear hv h2 h3 h4
  go_enter Tryz.func142, Tryz.ntmps142
  go_wp2_with fail
  refine (H1.out _).mono ?_
  rintro e w' ⟨rfl, rfl⟩
  go_wp2_with fail
  refine (H2.out _).mono ?_
  rintro e w' ⟨rfl, rfl⟩
  go_wp2_with fail
  refine (H3.out _).mono ?_
  rintro e w' ⟨rfl, rfl⟩
  go_wp2
  go_ret
  exact ⟨rfl, rfl⟩

set_option maxHeartbeats 2000000 in
theorem l17One_calls (s : ByteArray) (p b k : Int) (B q : Nat) (w : World) (hv : grpB ⟨s, p, b, k⟩ = true) (c0 : w.cell? ⟨B, q, none⟩ = some (.string s)) (c1 : w.cell? ⟨B, q + 1, none⟩ = some (.int .i64 p)) (c2 : w.cell? ⟨B, q + 2, none⟩ = some (.int .i64 b)) (c3 : w.cell? ⟨B, q + 3, none⟩ = some (.int .i64 k)) :
    Calls Tryz.prog 195 #[.pointer (some ⟨B, q, none⟩)] w fun e w' => e = .returned (.bool true) ∧ w = w' := by
  obtain ⟨h1, ⟨h2, h3, h4⟩, hs, _⟩ := grp_ok hv
  have HN := hide (l01Name_calls s w (by omega))
  rw [h1] at HN
  have H1 := hide (fun w => l00In_calls p 1 200 w)
  have H2 := hide (fun w => l00In_calls b 0 40 w)
  have H3 := hide (fun w => l00In_calls k 0 100000 w)
  simp only [h2] at H1
  simp only [h3] at H2
  simp only [h4] at H3
  clear hv h1 h2 h3 h4
  go_enter Tryz.func195, Tryz.ntmps195
  go_wp2_with fail
  refine HN.out.mono ?_
  rintro e w' ⟨rfl, rfl⟩
  go_wp2_with fail
  refine (H1.out _).mono ?_
  rintro e w' ⟨rfl, rfl⟩
  go_wp2_with fail
  refine (H2.out _).mono ?_
  rintro e w' ⟨rfl, rfl⟩
  go_wp2_with fail
  refine (H3.out _).mono ?_
  rintro e w' ⟨rfl, rfl⟩
  go_wp2
  go_ret
  exact ⟨rfl, rfl⟩

set_option maxHeartbeats 2000000 in
theorem l17Kilos_calls (p b k : Int) (B q : Nat) (w : World) (hp : 0 ≤ p ∧ p ≤ 200) (hb : 0 ≤ b ∧ b ≤ 40) (hk : 0 ≤ k ∧ k ≤ 100000) (c1 : w.cell? ⟨B, q + 1, none⟩ = some (.int .i64 p)) (c2 : w.cell? ⟨B, q + 2, none⟩ = some (.int .i64 b)) (c3 : w.cell? ⟨B, q + 3, none⟩ = some (.int .i64 k)) :
    Calls Tryz.prog 196 #[.pointer (some ⟨B, q, none⟩)] w fun e w' => e = .returned (.int .i64 (75 * p + 15 * b + k)) ∧ ∃ j, w' = w.drewN j := by
  go_enter Tryz.func196, Tryz.ntmps196
  go_wp2
  go_quiet (fail)
  go_wp2
  go_ret
  exact ⟨ret_int (by omega), _, rfl⟩

end Go.Proofs.YtcclfmapbgdpdaaGreatDoor
