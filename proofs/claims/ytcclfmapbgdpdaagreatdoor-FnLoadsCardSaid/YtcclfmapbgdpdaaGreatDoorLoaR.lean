/- The draw of a room. -/
import Derived.Test.YtcclfmapbgdpdaaGreatDoorLoaD
namespace Go.Proofs.YtcclfmapbgdpdaaGreatDoor
open Go.RowKit
set_option linter.unusedVariables false

set_option maxHeartbeats 2000000 in
set_option maxRecDepth 100000 in
theorem r8Room_calls (n c : Nat) (A : Option Addr) (bs : List Int) (w : World) (h : RdY w A n bs) (hn : n ≤ 1048576) :
    Calls Tryz.prog 54 #[.slice A n c] w fun e w' => ∃ p b k : Int, e = .returned (.agg #[.int .i64 p, .int .i64 b, .int .i64 k]) ∧ (20 ≤ p ∧ p ≤ 49) ∧ (5 ≤ b ∧ b ≤ 14) ∧ (2000 ≤ k ∧ k ≤ 5900) ∧ Below w.heap.size w w' := by
  obtain ⟨w0, hw0⟩ : ∃ w0, w0 = w.alloc (.cells #[.int .i64 0, .int .i64 0, .int .i64 0] 87) := ⟨_, rfl⟩
  have hb0 : Below w.heap.size w w0 := by rw [hw0]; exact (Below.refl _ _).alloc (Nat.le_refl _) _
  have hz0 : w.heap.size < w0.heap.size := by rw [hw0]; simp
  have HA0 : Hid (At3 87 w0 w.heap.size (.int .i64 0) (.int .i64 0) (.int .i64 0)) := by rw [hw0]; exact At3.new _ _ _ _ _
  have F := hide (l00From_calls n c A bs w0 (h.below hb0 (Nat.le_refl _)) hn)
  have HB0 := hide hb0
  clear h hb0
  go_enter Tryz.func54, Tryz.ntmps54
  go_wp2_with fail
  rw [← hw0]
  clear hw0
  refine F.out.mono ?_
  rintro e w1 ⟨rfl, s1, hb1, hz1⟩
  obtain ⟨g, hg⟩ : ∃ g, g = w0.heap.size := ⟨_, rfl⟩
  rw [← hg] at s1 ⊢
  obtain ⟨a1, ha1⟩ : ∃ a1 : Nat, a1 = 0 := ⟨_, rfl⟩
  rw [← ha1] at s1
  have HA1 := hide (HA0.out.below hb1 (by omega))
  have HB1 := hide (HB0.out.trans (hb1.mono HB0.out.size))
  have P1 := hide (pick_calls g n c a1 A 30 w1 s1 (by omega) (by unfold I64; omega))
  have hgw : w.heap.size < g := by omega
  have hg1 : g < w1.heap.size := by omega
  clear s1 hb1 F HA0 HB0 hz1 hg
  go_wp2_with fail
  refine P1.out.mono ?_
  rintro e w2 ⟨x, a2, rfl, hx, ha2, s2, r2⟩
  have hx29 : x ≤ 29 := by omega
  have hz2 := r2.size
  have HA2 := hide (At3.kept HA1.out r2 hgw)
  have HB2 := hide (Wr.below HB1.out r2 (by omega) (by omega))
  have P2 := hide (pick_calls g n c a2 A 10 w2 s2 (by omega) (by unfold I64; omega))
  clear s2 r2 P1 HA1 HB1 hx
  go_wp2_with fail
  refine P2.out.mono ?_
  rintro e w3 ⟨y, a3, rfl, hy, ha3, s3, r3⟩
  have hy9 : y ≤ 9 := by omega
  have hz3 := r3.size
  obtain ⟨w4, hw4⟩ : ∃ w4, w4 = w3.alloc (.cells #[.int .i64 (20 + (x : Int)), .int .i64 (5 + (y : Int)), .int .i64 0] 87) := ⟨_, rfl⟩
  have hb4 : Below w3.heap.size w3 w4 := by rw [hw4]; exact (Below.refl _ _).alloc (Nat.le_refl _) _
  have hz4 : w3.heap.size < w4.heap.size := by rw [hw4]; simp
  have HX4 : Hid (At3 87 w4 w3.heap.size (.int .i64 (20 + (x : Int))) (.int .i64 (5 + (y : Int))) (.int .i64 0)) := by rw [hw4]; exact At3.new _ _ _ _ _
  have HA4 := hide ((At3.kept HA2.out r3 hgw).below hb4 (by omega))
  have HB4 := hide ((Wr.below HB2.out r3 (by omega) (by omega)).trans (hb4.mono (by omega)))
  have P3 := hide (pick_calls g n c a3 A 40 w4 (s3.below hb4 (by omega)) (by omega) (by unfold I64; omega))
  clear s3 r3 hb4 P2 HA2 HB2 hy
  go_wp2_with fail
  rw [← hw4]
  clear hw4
  refine P3.out.mono ?_
  rintro e w5 ⟨z, a5, rfl, hz, ha5, s5, r5⟩
  have hz39 : z ≤ 39 := by omega
  obtain ⟨x0, x1, x2, fx0, fx1, fx2⟩ := (At3.wrG HX4.out r5 (by omega)).out
  obtain ⟨y0, y1, y2, fy0, fy1, fy2⟩ := (At3.kept HA4.out r5 hgw).out
  have HB5 := hide (Wr.below HB4.out r5 (by omega) (by omega))
  clear hz s5 r5 P3 HX4 HA4 HB4
  go_wp2
  refine bodyPost_ret (v := .agg #[.int .i64 (20 + (x : Int)), .int .i64 (5 + (y : Int)), .int .i64 (2000 + 100 * (z : Int))]) (by simp [results, Tryz.results54, go_sem, *]) rfl ?_
  exact ⟨_, _, _, rfl, by omega, by omega, by omega, below_set3 (HB5.out.setCell (p := ⟨w3.heap.size, 2, none⟩) (show w.heap.size ≤ w3.heap.size by omega) _) (Nat.le_refl _)⟩

end Go.Proofs.YtcclfmapbgdpdaaGreatDoor
