/- The draws of helpers and tasks. -/
import Derived.Test.YtcclfmapbgdpdaaGreatDoorHelK
import Derived.Test.YtcclfmapbgdpdaaGreatDoorMg
namespace Go.Proofs.YtcclfmapbgdpdaaGreatDoor
open Go.RowKit
set_option linter.unusedVariables false

theorem At3.wr {e : TypeId} {w w' : World} {B lo hi : Nat} {a0 a1 a2 : Value} (h : At3 e w B a0 a1 a2) (hw : Wr lo hi w w') (hB : hi ≤ B) : At3 e w' B a0 a1 a2 := (hw.block B (Array.getElem?_eq_some_iff.1 h).1 (.inr hB)).trans h

/-- Texts lie in memory at block b. -/
def Txts (w : World) (b : Nat) (xs : List ByteArray) : Prop := b < w.heap.size ∧ ∀ j s, xs[j]? = some s → w.cell? ⟨b, j, none⟩ = some (.string s)
theorem Txts.new (w : World) (xs : List ByteArray) (e : TypeId) : Txts (w.alloc (.cells (xs.map fun t => Value.string t).toArray e)) w.heap.size xs := by
  refine ⟨by simp, fun j s hs => ?_⟩
  rw [cell_of_row _ w.heap.size j _ _ (0, 0) (heap_alloc_new w _)]
  simp only [List.getElem?_toArray, List.getElem?_map, hs, Option.map_some]
theorem text_lit (g n c a cap : Nat) (A : Option Addr) (xs : List ByteArray) (w : World) (h : Src w g A n c a) (ha : a ≤ 549755813888) (hl : 1 ≤ xs.length) (hl2 : xs.length ≤ 1000) :
    Calls Tryz.prog 179 #[.pointer (some ⟨g, 0, none⟩), .slice (some ⟨w.heap.size, 0, none⟩) xs.length cap] (w.alloc (.cells (xs.map fun t => Value.string t).toArray 9)) fun e w' => ∃ (s : ByteArray) (a' : Nat), e = .returned (.string s) ∧ s ∈ xs ∧ a' ≤ a + 2 ∧ Src w' g A n c a' ∧ Wr g (g + 1) w w' := by
  have hb : Below w.heap.size w (w.alloc (.cells (xs.map fun t => Value.string t).toArray 9)) := (Below.refl _ _).alloc (Nat.le_refl _) _
  have T := Txts.new w xs 9
  refine (text_calls g n c a w.heap.size cap A xs _ (h.below hb h.lt) ha T.2 T.1 h.lt hl hl2).mono ?_
  rintro e w' ⟨s, a', h1, h2, h3, h4, h5⟩
  exact ⟨s, a', h1, h2, h3, h4, (Wr.of_below hb).trans h5⟩
theorem among_lit (g n c a cap : Nat) (A : Option Addr) (vs : List Int) (w : World) (h : Src w g A n c a) (ha : a ≤ 549755813888) (hl : 1 ≤ vs.length) (hl2 : vs.length ≤ 1000) (hv : ∀ x ∈ vs, I64 x) :
    Calls Tryz.prog 84 #[.pointer (some ⟨g, 0, none⟩), .slice (some ⟨w.heap.size, 0, none⟩) vs.length cap] (w.alloc (.cells (cI vs).toArray 2)) fun e w' => ∃ (x : Int) (a' : Nat), e = .returned (.int .i64 x) ∧ x ∈ vs ∧ a' ≤ a + 2 ∧ Src w' g A n c a' ∧ Wr g (g + 1) w w' := by
  have hb : Below w.heap.size w (w.alloc (.cells (cI vs).toArray 2)) := (Below.refl _ _).alloc (Nat.le_refl _) _
  have hl0 := World.ownsRow_lit (base := w.heap.size) (e := 2) (size := 1) w (cI vs).toArray vs.length (Nat.le_refl _) (by unfold maxLen; omega) (by simp [cI])
  have hf : FrI (w.alloc (.cells (cI vs).toArray 2)) w.heap.size (w.alloc (.cells (cI vs).toArray 2)).heap.size 2 (some ⟨w.heap.size, 0, none⟩) vs.length vs := FrI.of_own (by simpa using hl0) hv
  refine (among_calls g n c a w.heap.size _ vs.length cap A (some ⟨w.heap.size, 0, none⟩) vs _ (h.below hb h.lt) ha hf h.lt hl hl2).mono ?_
  rintro e w' ⟨x, a', h1, h2, _, h3, h4, h5⟩
  exact ⟨x, a', h1, h2, h3, h4, (Wr.of_below hb).trans h5⟩

set_option maxHeartbeats 2000000 in
theorem l24DrawHelper_calls (g n c a : Nat) (A : Option Addr) (id : ByteArray) (w : World) (h : Src w g A n c a) (ha : a ≤ 274877906944) :
    Calls Tryz.prog 124 #[.pointer (some ⟨g, 0, none⟩), .string id] w fun e w' => ∃ (x y : Nat) (a' : Nat), e = .returned (.agg #[.string id, .int .i64 (x : Int), .int .i64 (y : Int)]) ∧ x ≤ 7 ∧ y ≤ 1000 ∧ a' ≤ a + 4 ∧ Src w' g A n c a' ∧ Wr g (g + 1) w w' := by
  have hg := h.lt
  obtain ⟨w0, hw0⟩ : ∃ w0, w0 = w.alloc (.cells #[.string ⟨#[]⟩, .int .i64 0, .int .i64 0] 70) := ⟨_, rfl⟩
  have hb0 : Below w.heap.size w w0 := by rw [hw0]; exact (Below.refl _ _).alloc (Nat.le_refl _) _
  have hz0 : w.heap.size < w0.heap.size := by rw [hw0]; simp
  have HA0 : Hid (At3 70 w0 w.heap.size (.string ⟨#[]⟩) (.int .i64 0) (.int .i64 0)) := by rw [hw0]; exact At3.new _ _ _ _ _
  have P1 := hide (pick_calls g n c a A 8 w0 (h.below hb0 hg) (by omega) (by unfold I64; omega))
  have HW0 : Hid (Wr g (g + 1) w w0) := Wr.of_below hb0
  clear h hb0
  go_enter Tryz.func124, Tryz.ntmps124
  go_wp2_with fail
  rw [← hw0]
  clear hw0
  refine P1.out.mono ?_
  rintro e w1 ⟨x, a1, rfl, hx, ha1, s1, r1⟩
  have hx7 : x ≤ 7 := by omega
  have hz1 := r1.size
  obtain ⟨w2, hw2⟩ : ∃ w2, w2 = w1.alloc (.cells #[.string id, .int .i64 (x : Int), .int .i64 0] 70) := ⟨_, rfl⟩
  have hb2 : Below w1.heap.size w1 w2 := by rw [hw2]; exact (Below.refl _ _).alloc (Nat.le_refl _) _
  have hz2 : w1.heap.size < w2.heap.size := by rw [hw2]; simp
  have HX2 : Hid (At3 70 w2 w1.heap.size (.string id) (.int .i64 (x : Int)) (.int .i64 0)) := by rw [hw2]; exact At3.new _ _ _ _ _
  have HA2 := hide ((HA0.out.wr r1 hg).below hb2 (by omega))
  have P2 := hide (pick_calls g n c a1 A 12 w2 (s1.below hb2 (by omega)) (by omega) (by unfold I64; omega))
  have HW2 := hide ((HW0.out.trans r1).thenB hb2 (by omega))
  clear hx s1 r1 hb2 P1 HA0 HW0
  go_wp2_with fail
  rw [← hw2]
  clear hw2
  refine P2.out.mono ?_
  rintro e w3 ⟨y, a3, rfl, hy, ha3, s3, r3⟩
  have hy11 : y ≤ 11 := by omega
  have hz3 := r3.size
  have HX3 := HX2.out.wr r3 (by omega)
  have HA3 := HA2.out.wr r3 hg
  obtain ⟨x0, x1, x2, fx⟩ := HX3.out
  obtain ⟨y0, y1, y2, fy⟩ := HA3.out
  have HS3 := hide s3
  have HW3 := hide (HW2.out.trans r3)
  clear hy s3 r3 P2 HX2 HA2 HW2

  go_wp2
  refine bodyPost_ret (v := .agg #[.string id, .int .i64 (x : Int), .int .i64 (5 * (y : Int))]) (by simp [results, Tryz.results124, go_sem, *]) rfl ?_
  have hB := below_set3 (u0 := .string id) (u1 := .int .i64 (x : Int)) (u2 := .int .i64 (5 * (y : Int))) ((Below.refl w.heap.size w3).setCell (p := ⟨w1.heap.size, 2, none⟩) (show w.heap.size ≤ w1.heap.size by omega) (.int .i64 (5 * (y : Int)))) (Nat.le_refl w.heap.size)
  exact ⟨x, 5 * y, a3, by rw [Int.natCast_mul]; rfl, hx7, by omega, by omega, HS3.out.below hB hg, HW3.out.thenB hB (Nat.le_refl _)⟩

set_option maxHeartbeats 2000000 in
theorem l24DrawTask_calls (g n c a : Nat) (A : Option Addr) (id : ByteArray) (w : World) (h : Src w g A n c a) (ha : a ≤ 274877906944) :
    Calls Tryz.prog 127 #[.pointer (some ⟨g, 0, none⟩), .string id] w fun e w' => ∃ (x y : Nat) (a' : Nat), e = .returned (.agg #[.string id, .int .i64 (x : Int), .int .i64 (y : Int)]) ∧ x ≤ 7 ∧ y ≤ 1000 ∧ a' ≤ a + 4 ∧ Src w' g A n c a' ∧ Wr g (g + 1) w w' := by
  have hg := h.lt
  obtain ⟨w0, hw0⟩ : ∃ w0, w0 = (w.alloc (.cells #[.string ⟨#[]⟩, .int .i64 0, .int .i64 0] 67)) := ⟨_, rfl⟩
  have hb0 : Below w.heap.size w w0 := by rw [hw0]; exact (Below.refl _ _).alloc (Nat.le_refl _) _
  have hz0 : w0.heap.size = w.heap.size + 1 := by rw [hw0]; simp
  have HA0 : Hid (At3 67 w0 w.heap.size (.string ⟨#[]⟩) (.int .i64 0) (.int .i64 0)) := by rw [hw0]; exact At3.new _ _ _ _ _
  obtain ⟨wl, hwl⟩ : ∃ wl, wl = w0.alloc (.cells #[.int .i64 0, .int .i64 1, .int .i64 2, .int .i64 4, .int .i64 3, .int .i64 5, .int .i64 6] 2) := ⟨_, rfl⟩
  have hbl : Below w0.heap.size w0 wl := by rw [hwl]; exact (Below.refl _ _).alloc (Nat.le_refl _) _
  have hl := World.ownsRow_lit (base := w0.heap.size) (e := 2) (size := 1) w0 #[.int .i64 0, .int .i64 1, .int .i64 2, .int .i64 4, .int .i64 3, .int .i64 5, .int .i64 6] 7 (Nat.le_refl _) (by unfold maxLen; omega) rfl
  rw [← hwl] at hl
  have hf : FrI wl w0.heap.size wl.heap.size 2 (some ⟨w0.heap.size, 0, none⟩) 7 [0, 1, 2, 4, 3, 5, 6] := FrI.of_own hl (by intro y hy; simp at hy; unfold I64; omega)
  have hzl := hbl.size
  have P1 := hide (among_calls g n c a w0.heap.size wl.heap.size 7 7 A (some ⟨w0.heap.size, 0, none⟩) [0, 1, 2, 4, 3, 5, 6] wl ((h.below hb0 hg).below hbl (by omega)) (by omega) hf (by omega) (by omega) (by omega))
  have HW0 : Hid (Wr g (g + 1) w wl) := Wr.of_below (hb0.trans (hbl.mono hb0.size))
  have HA1 := hide (HA0.out.below hbl (by omega))
  clear h hb0 hl hf hbl HA0
  go_enter Tryz.func127, Tryz.ntmps127
  go_wp2_with fail
  rw [← hw0]
  rw [show w.heap.size + 1 = w0.heap.size from hz0.symm, ← hwl]
  clear hw0 hwl
  refine P1.out.mono ?_
  rintro e w1 ⟨xi, a1, rfl, hx, _, ha1, s1, r1⟩
  obtain ⟨x, rfl⟩ : ∃ x : Nat, xi = (x : Int) := ⟨xi.toNat, by simp at hx; omega⟩
  have hx7 : x ≤ 7 := by simp at hx; omega
  have hz1 := r1.size
  obtain ⟨w2, hw2⟩ : ∃ w2, w2 = w1.alloc (.cells #[.string id, .int .i64 (x : Int), .int .i64 0] 67) := ⟨_, rfl⟩
  have hb2 : Below w1.heap.size w1 w2 := by rw [hw2]; exact (Below.refl _ _).alloc (Nat.le_refl _) _
  have hz2 : w1.heap.size < w2.heap.size := by rw [hw2]; simp
  have HX2 : Hid (At3 67 w2 w1.heap.size (.string id) (.int .i64 (x : Int)) (.int .i64 0)) := by rw [hw2]; exact At3.new _ _ _ _ _
  have HA2 := hide ((HA1.out.wr r1 hg).below hb2 (by omega))
  have P2 := hide (pick_calls g n c a1 A 12 w2 (s1.below hb2 (by omega)) (by omega) (by unfold I64; omega))
  have HW2 := hide ((HW0.out.trans r1).thenB hb2 (by omega))
  clear hx s1 r1 hb2 P1 HA1 HW0
  go_wp2_with fail
  rw [← hw2]
  clear hw2
  refine P2.out.mono ?_
  rintro e w3 ⟨y, a3, rfl, hy, ha3, s3, r3⟩
  have hy11 : y ≤ 11 := by omega
  have hz3 := r3.size
  have HX3 := HX2.out.wr r3 (by omega)
  have HA3 := HA2.out.wr r3 hg
  obtain ⟨x0, x1, x2, fx⟩ := HX3.out
  obtain ⟨y0, y1, y2, fy⟩ := HA3.out
  have HS3 := hide s3
  have HW3 := hide (HW2.out.trans r3)
  clear hy s3 r3 P2 HX2 HA2 HW2
  go_wp2
  refine bodyPost_ret (v := .agg #[.string id, .int .i64 (x : Int), .int .i64 (10 + 5 * (y : Int))]) (by simp [results, Tryz.results127, go_sem, *]) rfl ?_
  have hB := below_set3 (u0 := .string id) (u1 := .int .i64 (x : Int)) (u2 := .int .i64 (10 + 5 * (y : Int))) ((Below.refl w.heap.size w3).setCell (p := ⟨w1.heap.size, 2, none⟩) (show w.heap.size ≤ w1.heap.size by omega) (.int .i64 (10 + 5 * (y : Int)))) (Nat.le_refl w.heap.size)
  exact ⟨x, 10 + 5 * y, a3, by rw [Int.natCast_add, Int.natCast_mul]; rfl, hx7, by omega, by omega, HS3.out.below hB hg, HW3.out.thenB hB (Nat.le_refl _)⟩

end Go.Proofs.YtcclfmapbgdpdaaGreatDoor
