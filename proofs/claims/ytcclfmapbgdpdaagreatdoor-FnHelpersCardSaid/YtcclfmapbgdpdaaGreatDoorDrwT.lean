/- The draws of helpers and tasks for the law. -/
import Derived.Test.YtcclfmapbgdpdaaGreatDoorDrw24
namespace Go.Proofs.YtcclfmapbgdpdaaGreatDoor
open Go.RowKit
set_option linter.unusedVariables false

theorem At3.keep {e : TypeId} {w w' : World} {B lo hi : Nat} {a0 a1 a2 : Value} (h : At3 e w B a0 a1 a2) (hw : Wr lo hi w w') (hB : B < lo) : At3 e w' B a0 a1 a2 := (hw.block B (Array.getElem?_eq_some_iff.1 h).1 (.inl hB)).trans h

theorem drawFillTasks_calls (n c : Nat) (A : Option Addr) (bs : List Int) (w : World) (h : RdY w A n bs) (hn : n ≤ 1048576) :
    Calls Tryz.prog 36 #[.slice A n c] w fun e w' => ∃ A1 m1 c1 xs A2 m2 c2 ys, e = .returned (.tuple #[.slice A1 m1 c1, .slice A2 m2 c2]) ∧ RdK kHlp w' A1 m1 xs ∧ m1 ≤ 1000 ∧ m1 ≤ c1 ∧ RdK kHlp w' A2 m2 ys ∧ m2 ≤ 1000 ∧ m2 ≤ c2 ∧ Below w.heap.size w w' := by
  have F := hide (l00From_calls n c A bs w h hn)
  clear h
  go_enter Tryz.func36, Tryz.ntmps36
  go_wp2_with fail
  refine F.out.mono ?_
  rintro e w1 ⟨rfl, s1, hb1, hz1⟩
  have D := hide (l24Draw_calls w.heap.size n c 0 A w1 s1 (by omega))
  have HB1 := hide hb1
  clear s1 hb1 F
  go_wp2_with fail
  refine D.out.mono ?_
  rintro e w2 ⟨A1, m1, c1, xs, A2, m2, c2, ys, rfl, hq1, hm1, hc1, hq2, hm2, hc2, r2⟩
  have HB2 := hide (Wr.below HB1.out r2 (Nat.le_refl _) HB1.out.size)
  have H1 := hide hq1
  have H2 := hide hq2
  clear hq1 hq2 r2 D
  go_wp2
  go_ret2
  exact ⟨A1, m1, c1, xs, A2, m2, c2, ys, rfl, H1.out, hm1, hc1, H2.out, hm2, hc2, HB2.out⟩

set_option maxHeartbeats 2000000 in
theorem drawHelperText_calls (n c : Nat) (A : Option Addr) (bs : List Int) (w : World) (h : RdY w A n bs) (hn : n ≤ 1048576) :
    Calls Tryz.prog 44 #[.slice A n c] w fun e w' => ∃ (s : ByteArray) (o k : Int), e = .returned (.agg #[.string s, .int .i64 o, .int .i64 k]) ∧ s.size ≤ 10 ∧ I64 o ∧ I64 k ∧ Below w.heap.size w w' := by
  obtain ⟨w0, hw0⟩ : ∃ w0, w0 = w.alloc (.cells #[.string ⟨#[]⟩, .int .i64 0, .int .i64 0] 70) := ⟨_, rfl⟩
  have hb0 : Below w.heap.size w w0 := by rw [hw0]; exact (Below.refl _ _).alloc (Nat.le_refl _) _
  have hz0 : w.heap.size < w0.heap.size := by rw [hw0]; simp
  have HA0 : Hid (At3 70 w0 w.heap.size (.string ⟨#[]⟩) (.int .i64 0) (.int .i64 0)) := by rw [hw0]; exact At3.new _ _ _ _ _
  have F := hide (l00From_calls n c A bs w0 (h.below hb0 (Nat.le_refl _)) hn)
  have HB0 := hide hb0
  clear h hb0
  go_enter Tryz.func44, Tryz.ntmps44
  go_wp2_with fail
  rw [← hw0]
  clear hw0
  refine F.out.mono ?_
  rintro e w1 ⟨rfl, s1, hb1, hz1⟩
  obtain ⟨g, hg⟩ : ∃ g, g = w0.heap.size := ⟨_, rfl⟩
  rw [← hg] at s1 ⊢
  have HA1 := hide (HA0.out.below hb1 (by omega))
  have HB1 := hide (HB0.out.trans (hb1.mono HB0.out.size))
  have D := hide (l24DrawHelper_calls g n c 0 A ⟨#[104, 97]⟩ w1 s1 (by omega))
  have hgw : w.heap.size < g := by omega
  have hg1 : g < w1.heap.size := by omega
  clear s1 hb1 F HA0 HB0 hz1 hg
  go_wp2_with fail
  refine D.out.mono ?_
  rintro e w2 ⟨x, y, a2, rfl, hx7, hy1, ha2, s2, r2⟩
  have hz2 := r2.size
  obtain ⟨w3, hw3⟩ : ∃ w3, w3 = w2.alloc (.cells #[.string ⟨#[104, 97]⟩, .int .i64 (x : Int), .int .i64 (y : Int)] 70) := ⟨_, rfl⟩
  have hb3 : Below w2.heap.size w2 w3 := by rw [hw3]; exact (Below.refl _ _).alloc (Nat.le_refl _) _
  have hz3 : w2.heap.size < w3.heap.size := by rw [hw3]; simp
  have HX3 : Hid (At3 70 w3 w2.heap.size (.string ⟨#[104, 97]⟩) (.int .i64 (x : Int)) (.int .i64 (y : Int))) := by rw [hw3]; exact At3.new _ _ _ _ _
  have HA3 := hide ((At3.keep HA1.out r2 hgw).below hb3 (by omega))
  have O := hide (one_calls g n c a2 A 5 w3 (s2.below hb3 (by omega)) (by omega) (by unfold I64; omega))
  have HB3 := hide ((Wr.below HB1.out r2 (by omega) (by omega)).trans (hb3.mono (by omega)))
  clear s2 r2 hb3 D HA1 HB1
  go_wp2_with fail
  rw [← hw3]
  clear hw3
  refine O.out.mono ?_
  rintro e w4 ⟨b, a4, rfl, ha4, s4, r4⟩
  have hz4 := r4.size
  have HX4 := hide (HX3.out.wr r4 (by omega))
  have HA4 := hide (At3.keep HA3.out r4 hgw)
  have HB4 := hide (Wr.below HB3.out r4 (by omega) (by omega))
  have HS4 := hide s4
  clear s4 r4 O HX3 HA3 HB3
  cases b
  · obtain ⟨x0, x1, x2, _⟩ := HX4.out.out
    obtain ⟨y0, y1, y2, f0, f1, f2⟩ := HA4.out.out
    go_wp2
    refine bodyPost_ret (v := .agg #[.string ⟨#[104, 97]⟩, .int .i64 (x : Int), .int .i64 (y : Int)]) (by simp [results, Tryz.results44, go_sem, *]) rfl ?_
    exact ⟨_, _, _, rfl, by decide, by unfold I64; omega, by unfold I64; omega, below_set3 HB4.out (Nat.le_refl _)⟩
  · have T := hide (among_lit g n c a4 4 A [-1, 0, 1000, 1001] w4 HS4.out (by omega) (by decide) (by decide) (by unfold I64; decide))
    go_wp2_with fail
    refine T.out.mono ?_
    rintro e w5 ⟨z, a5, rfl, hz, ha5, s5, r5⟩
    have hzI : I64 z := by simp at hz; unfold I64; omega
    have hz5 := r5.size
    obtain ⟨x0, x1, x2, f0', f1', f2'⟩ := (HX4.out.wr r5 (by omega)).out
    obtain ⟨y0, y1, y2, f0, f1, f2⟩ := (At3.keep HA4.out r5 hgw).out
    have HB5 := hide (Wr.below HB4.out r5 (by omega) (by omega))
    have HZ := hide hzI
    clear hz s5 r5 T HX4 HA4 HB4 hzI
    go_wp2
    refine bodyPost_ret (v := .agg #[.string ⟨#[104, 97]⟩, .int .i64 (x : Int), .int .i64 z]) (by simp [results, Tryz.results44, go_sem, *]) rfl ?_
    exact ⟨_, _, _, rfl, by decide, by unfold I64; omega, HZ.out, below_set3 (HB5.out.setCell (p := ⟨w2.heap.size, 2, none⟩) (show w.heap.size ≤ w2.heap.size by omega) _) (Nat.le_refl _)⟩

set_option maxHeartbeats 2000000 in
theorem drawTaskText_calls (n c : Nat) (A : Option Addr) (bs : List Int) (w : World) (h : RdY w A n bs) (hn : n ≤ 1048576) :
    Calls Tryz.prog 47 #[.slice A n c] w fun e w' => ∃ (s : ByteArray) (o k : Int), e = .returned (.agg #[.string s, .int .i64 o, .int .i64 k]) ∧ s.size ≤ 10 ∧ I64 o ∧ I64 k ∧ Below w.heap.size w w' := by
  obtain ⟨w0, hw0⟩ : ∃ w0, w0 = w.alloc (.cells #[.string ⟨#[]⟩, .int .i64 0, .int .i64 0] 67) := ⟨_, rfl⟩
  have hb0 : Below w.heap.size w w0 := by rw [hw0]; exact (Below.refl _ _).alloc (Nat.le_refl _) _
  have hz0 : w.heap.size < w0.heap.size := by rw [hw0]; simp
  have HA0 : Hid (At3 67 w0 w.heap.size (.string ⟨#[]⟩) (.int .i64 0) (.int .i64 0)) := by rw [hw0]; exact At3.new _ _ _ _ _
  have F := hide (l00From_calls n c A bs w0 (h.below hb0 (Nat.le_refl _)) hn)
  have HB0 := hide hb0
  clear h hb0
  go_enter Tryz.func47, Tryz.ntmps47
  go_wp2_with fail
  rw [← hw0]
  clear hw0
  refine F.out.mono ?_
  rintro e w1 ⟨rfl, s1, hb1, hz1⟩
  obtain ⟨g, hg⟩ : ∃ g, g = w0.heap.size := ⟨_, rfl⟩
  rw [← hg] at s1 ⊢
  have HA1 := hide (HA0.out.below hb1 (by omega))
  have HB1 := hide (HB0.out.trans (hb1.mono HB0.out.size))
  have D := hide (l24DrawTask_calls g n c 0 A ⟨#[116, 97]⟩ w1 s1 (by omega))
  have hgw : w.heap.size < g := by omega
  have hg1 : g < w1.heap.size := by omega
  clear s1 hb1 F HA0 HB0 hz1 hg
  go_wp2_with fail
  refine D.out.mono ?_
  rintro e w2 ⟨x, y, a2, rfl, hx7, hy1, ha2, s2, r2⟩
  have hz2 := r2.size
  obtain ⟨w3, hw3⟩ : ∃ w3, w3 = w2.alloc (.cells #[.string ⟨#[116, 97]⟩, .int .i64 (x : Int), .int .i64 (y : Int)] 67) := ⟨_, rfl⟩
  have hb3 : Below w2.heap.size w2 w3 := by rw [hw3]; exact (Below.refl _ _).alloc (Nat.le_refl _) _
  have hz3 : w2.heap.size < w3.heap.size := by rw [hw3]; simp
  have HX3 : Hid (At3 67 w3 w2.heap.size (.string ⟨#[116, 97]⟩) (.int .i64 (x : Int)) (.int .i64 (y : Int))) := by rw [hw3]; exact At3.new _ _ _ _ _
  have HA3 := hide ((At3.keep HA1.out r2 hgw).below hb3 (by omega))
  have O := hide (one_calls g n c a2 A 5 w3 (s2.below hb3 (by omega)) (by omega) (by unfold I64; omega))
  have HB3 := hide ((Wr.below HB1.out r2 (by omega) (by omega)).trans (hb3.mono (by omega)))
  clear s2 r2 hb3 D HA1 HB1
  go_wp2_with fail
  rw [← hw3]
  clear hw3
  refine O.out.mono ?_
  rintro e w4 ⟨b, a4, rfl, ha4, s4, r4⟩
  have hz4 := r4.size
  have HX4 := hide (HX3.out.wr r4 (by omega))
  have HA4 := hide (At3.keep HA3.out r4 hgw)
  have HB4 := hide (Wr.below HB3.out r4 (by omega) (by omega))
  have HS4 := hide s4
  clear s4 r4 O HX3 HA3 HB3
  cases b
  · obtain ⟨x0, x1, x2, _⟩ := HX4.out.out
    obtain ⟨y0, y1, y2, f0, f1, f2⟩ := HA4.out.out
    go_wp2
    refine bodyPost_ret (v := .agg #[.string ⟨#[116, 97]⟩, .int .i64 (x : Int), .int .i64 (y : Int)]) (by simp [results, Tryz.results47, go_sem, *]) rfl ?_
    exact ⟨_, _, _, rfl, by decide, by unfold I64; omega, by unfold I64; omega, below_set3 HB4.out (Nat.le_refl _)⟩
  · have T := hide (among_lit g n c a4 4 A [-1, 0, 7, 8] w4 HS4.out (by omega) (by decide) (by decide) (by unfold I64; decide))
    go_wp2_with fail
    refine T.out.mono ?_
    rintro e w5 ⟨z, a5, rfl, hz, ha5, s5, r5⟩
    have hzI : I64 z := by simp at hz; unfold I64; omega
    have hz5 := r5.size
    obtain ⟨x0, x1, x2, f0', f1', f2'⟩ := (HX4.out.wr r5 (by omega)).out
    obtain ⟨y0, y1, y2, f0, f1, f2⟩ := (At3.keep HA4.out r5 hgw).out
    have HB5 := hide (Wr.below HB4.out r5 (by omega) (by omega))
    have HZ := hide hzI
    clear hz s5 r5 T HX4 HA4 HB4 hzI
    go_wp2
    refine bodyPost_ret (v := .agg #[.string ⟨#[116, 97]⟩, .int .i64 z, .int .i64 (y : Int)]) (by simp [results, Tryz.results47, go_sem, *]) rfl ?_
    exact ⟨_, _, _, rfl, by decide, HZ.out, by unfold I64; omega, below_set3 (HB5.out.setCell (p := ⟨w2.heap.size, 1, none⟩) (show w.heap.size ≤ w2.heap.size by omega) _) (Nat.le_refl _)⟩

end Go.Proofs.YtcclfmapbgdpdaaGreatDoor
