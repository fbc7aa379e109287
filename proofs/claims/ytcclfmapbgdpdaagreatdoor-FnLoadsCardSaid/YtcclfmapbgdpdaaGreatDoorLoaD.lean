/- The draws of groups and rooms. -/
import Derived.Test.YtcclfmapbgdpdaaGreatDoorLoaV
import Derived.Test.YtcclfmapbgdpdaaGreatDoorMg
import Derived.Deep.DeepCutAuto
namespace Go.Proofs.YtcclfmapbgdpdaaGreatDoor
open Go.RowKit
set_option linter.unusedVariables false

theorem At3.kept {e : TypeId} {w w' : World} {B lo hi : Nat} {a0 a1 a2 : Value} (h : At3 e w B a0 a1 a2) (hw : Wr lo hi w w') (hB : B < lo) : At3 e w' B a0 a1 a2 := (hw.block B (Array.getElem?_eq_some_iff.1 h).1 (.inl hB)).trans h
theorem At3.wrG {e : TypeId} {w w' : World} {B lo hi : Nat} {a0 a1 a2 : Value} (h : At3 e w B a0 a1 a2) (hw : Wr lo hi w w') (hB : hi ≤ B) : At3 e w' B a0 a1 a2 := (hw.block B (Array.getElem?_eq_some_iff.1 h).1 (.inr hB)).trans h
/-- Texts lie in memory at block b. -/
def TxtG (w : World) (b : Nat) (xs : List ByteArray) : Prop := b < w.heap.size ∧ ∀ j s, xs[j]? = some s → w.cell? ⟨b, j, none⟩ = some (.string s)
theorem TxtG.new (w : World) (xs : List ByteArray) (e : TypeId) : TxtG (w.alloc (.cells (xs.map fun t => Value.string t).toArray e)) w.heap.size xs := by
  refine ⟨by simp, fun j s hs => ?_⟩
  rw [cell_of_row _ w.heap.size j _ _ (0, 0) (heap_alloc_new w _)]
  simp only [List.getElem?_toArray, List.getElem?_map, hs, Option.map_some]
theorem TxtG.wr {w w' : World} {b lo hi : Nat} {xs : List ByteArray} (h : TxtG w b xs) (hw : Wr lo hi w w') (hB : hi ≤ b) : TxtG w' b xs := ⟨Nat.lt_of_lt_of_le h.1 hw.size, fun j s hj => (hw.cell (p := ⟨b, j, none⟩) h.1 (.inr hB)).trans (h.2 j s hj)⟩

/-- A block of four cells. -/
def Ag4 (e : TypeId) (w : World) (B : Nat) (a0 a1 a2 a3 : Value) : Prop := w.heap[B]? = some (.cells #[a0, a1, a2, a3] e (0, 0))
theorem Ag4.below {e : TypeId} {w w' : World} {B base : Nat} {a0 a1 a2 a3 : Value} (h : Ag4 e w B a0 a1 a2 a3) (hb : Below base w w') (hB : B < base) : Ag4 e w' B a0 a1 a2 a3 := (hb.block B hB).trans h
theorem Ag4.new (e : TypeId) (w : World) (a0 a1 a2 a3 : Value) : Ag4 e (w.alloc (.cells #[a0, a1, a2, a3] e)) w.heap.size a0 a1 a2 a3 := heap_alloc_new w _
theorem Ag4.wr {e : TypeId} {w w' : World} {B lo hi : Nat} {a0 a1 a2 a3 : Value} (h : Ag4 e w B a0 a1 a2 a3) (hw : Wr lo hi w w') (hB : B < lo ∨ hi ≤ B) : Ag4 e w' B a0 a1 a2 a3 := (hw.block B (Array.getElem?_eq_some_iff.1 h).1 hB).trans h
theorem Ag4.out {e : TypeId} {w : World} {B : Nat} {a0 a1 a2 a3 : Value} (h : Ag4 e w B a0 a1 a2 a3) : w.cell? ⟨B, 0, none⟩ = some a0 ∧ w.cell? ⟨B, 1, none⟩ = some a1 ∧ w.cell? ⟨B, 2, none⟩ = some a2 ∧ w.cell? ⟨B, 3, none⟩ = some a3 ∧
    w.frozen? ⟨B, 0, none⟩ = false ∧ w.frozen? ⟨B, 1, none⟩ = false ∧ w.frozen? ⟨B, 2, none⟩ = false ∧ w.frozen? ⟨B, 3, none⟩ = false := by
  have d0 := cell_of_row _ B 0 _ _ _ h
  have d1 := cell_of_row _ B 1 _ _ _ h
  have d2 := cell_of_row _ B 2 _ _ _ h
  have d3 := cell_of_row _ B 3 _ _ _ h
  simp at d0 d1 d2 d3
  exact ⟨d0, d1, d2, d3, frozen_of_row _ B 0 _ _ h, frozen_of_row _ B 1 _ _ h, frozen_of_row _ B 2 _ _ h, frozen_of_row _ B 3 _ _ h⟩
theorem below_set4 {w w' : World} {B C : Nat} {u0 u1 u2 u3 : Value} (h : Below B w w') (hC : B ≤ C) : Below B w ((((w'.setCell ⟨C, 0, none⟩ u0).setCell ⟨C, 1, none⟩ u1).setCell ⟨C, 2, none⟩ u2).setCell ⟨C, 3, none⟩ u3) :=
  (((h.setCell hC _).setCell hC _).setCell hC _).setCell hC _

set_option maxHeartbeats 2000000 in
theorem l17DrawOne_calls (g n c a : Nat) (A : Option Addr) (id : ByteArray) (w : World) (h : Src w g A n c a) (ha : a ≤ 274877906944) :
    Calls Tryz.prog 193 #[.pointer (some ⟨g, 0, none⟩), .string id] w fun e w' => ∃ (x y z : Int) (a' : Nat), e = .returned (.agg #[.string id, .int .i64 x, .int .i64 y, .int .i64 z]) ∧ (1 ≤ x ∧ x ≤ 20) ∧ (0 ≤ y ∧ y ≤ 5) ∧ (0 ≤ z ∧ z ≤ 290) ∧ a' ≤ a + 6 ∧ Src w' g A n c a' ∧ Wr g (g + 1) w w' := by
  have hg := h.lt
  obtain ⟨w0, hw0⟩ : ∃ w0, w0 = w.alloc (.cells #[.string ⟨#[]⟩, .int .i64 0, .int .i64 0, .int .i64 0] 98) := ⟨_, rfl⟩
  have hb0 : Below w.heap.size w w0 := by rw [hw0]; exact (Below.refl _ _).alloc (Nat.le_refl _) _
  have hz0 : w.heap.size < w0.heap.size := by rw [hw0]; simp
  have HA0 : Hid (Ag4 98 w0 w.heap.size (.string ⟨#[]⟩) (.int .i64 0) (.int .i64 0) (.int .i64 0)) := by rw [hw0]; exact Ag4.new _ _ _ _ _ _
  have P1 := hide (pick_calls g n c a A 20 w0 (h.below hb0 hg) (by omega) (by unfold I64; omega))
  have HW0 : Hid (Wr g (g + 1) w w0) := Wr.of_below hb0
  clear h hb0
  go_enter Tryz.func193, Tryz.ntmps193
  go_wp2_with fail
  rw [← hw0]
  clear hw0
  refine P1.out.mono ?_
  rintro e w1 ⟨x, a1, rfl, hx, ha1, s1, r1⟩
  have hx7 : x ≤ 19 := by omega
  have hz1 := r1.size
  have HA1 := hide (HA0.out.wr r1 (.inr hg))
  have HW1 := hide (HW0.out.trans r1)
  have P2 := hide (pick_calls g n c a1 A 6 w1 s1 (by omega) (by unfold I64; omega))
  clear hx s1 r1 P1 HA0 HW0
  go_wp2_with fail
  refine P2.out.mono ?_
  rintro e w2 ⟨y, a2, rfl, hy, ha2, s2, r2⟩
  have hy5 : y ≤ 5 := by omega
  have hz2 := r2.size
  obtain ⟨w3, hw3⟩ : ∃ w3, w3 = w2.alloc (.cells #[.string id, .int .i64 (1 + (x : Int)), .int .i64 (y : Int), .int .i64 0] 98) := ⟨_, rfl⟩
  have hb3 : Below w2.heap.size w2 w3 := by rw [hw3]; exact (Below.refl _ _).alloc (Nat.le_refl _) _
  have hz3 : w2.heap.size < w3.heap.size := by rw [hw3]; simp
  have HX3 : Hid (Ag4 98 w3 w2.heap.size (.string id) (.int .i64 (1 + (x : Int))) (.int .i64 (y : Int)) (.int .i64 0)) := by rw [hw3]; exact Ag4.new _ _ _ _ _ _
  have HA3 := hide ((HA1.out.wr r2 (.inr hg)).below hb3 (by omega))
  have P3 := hide (pick_calls g n c a2 A 30 w3 (s2.below hb3 (by omega)) (by omega) (by unfold I64; omega))
  have HW3 := hide ((HW1.out.trans r2).thenB hb3 (by omega))
  clear hy s2 r2 hb3 P2 HA1 HW1
  go_wp2_with fail
  rw [← hw3]
  clear hw3
  refine P3.out.mono ?_
  rintro e w4 ⟨z, a4, rfl, hz, ha4, s4, r4⟩
  have hz29 : z ≤ 29 := by omega
  have hz4 := r4.size
  obtain ⟨x0, x1, x2, x3, fx0, fx1, fx2, fx3⟩ := (HX3.out.wr r4 (.inr (by omega))).out
  obtain ⟨y0, y1, y2, y3, fy0, fy1, fy2, fy3⟩ := (HA3.out.wr r4 (.inr hg)).out
  have HS4 := hide s4
  have HW4 := hide (HW3.out.trans r4)
  clear hz s4 r4 P3 HX3 HA3 HW3
  go_wp2
  refine bodyPost_ret (v := .agg #[.string id, .int .i64 (1 + (x : Int)), .int .i64 (y : Int), .int .i64 (10 * (z : Int))]) (by simp [results, Tryz.results193, go_sem, *]) rfl ?_
  have hB := below_set4 (u0 := .string id) (u1 := .int .i64 (1 + (x : Int))) (u2 := .int .i64 (y : Int)) (u3 := .int .i64 (10 * (z : Int))) ((Below.refl w.heap.size w4).setCell (p := ⟨w2.heap.size, 3, none⟩) (show w.heap.size ≤ w2.heap.size by omega) (.int .i64 (10 * (z : Int)))) (Nat.le_refl w.heap.size)
  exact ⟨_, _, _, a4, rfl, by omega, by omega, by omega, by omega, HS4.out.below hB hg, HW4.out.thenB hB (Nat.le_refl _)⟩

def gNames : List ByteArray := [⟨#[103, 97]⟩, ⟨#[103, 98]⟩, ⟨#[103, 99]⟩, ⟨#[103, 100]⟩, ⟨#[103, 101]⟩, ⟨#[103, 102]⟩]
theorem gNames_up : gNames.Pairwise (fun a b => strLess a b = true) := by decide +kernel
theorem gNames_ok : ∀ s ∈ gNames, nameB s = true ∧ s.size ≤ 10 := by decide +kernel
theorem grps_of {xs : List GrpZ} (h1 : (xs.map GrpZ.id).Sublist gNames) (h2 : ∀ x ∈ xs, grpB x = true) : grpsB xs = true := by
  have hl : xs.length ≤ 6 := by have := h1.length_le; rw [List.length_map] at this; exact this
  have hp := gNames_up.sublist h1
  unfold grpsB
  rw [listN_all (ok := grpB) (nm := GrpZ.id) (M := 12) (xs := xs) rfl (fun j hj => ?_)]
  · exact decide_eq_true (by omega)
  · have hx := List.getElem?_eq_getElem hj
    rw [stepN_at hx, h2 _ (List.getElem_mem hj), Bool.true_and]
    cases j with
    | zero => rfl
    | succ j =>
      rw [upN_at (List.getElem?_eq_getElem (show j < xs.length by omega)) hx]
      have := List.pairwise_iff_getElem.1 hp j (j + 1) (by rw [List.length_map]; omega) (by rw [List.length_map]; omega) (by omega)
      simpa using this
/-- A drawn group. -/
def DrG (x : GrpZ) : Prop := grpB x = true ∧ x.p ≤ 20 ∧ x.b ≤ 5 ∧ x.k ≤ 290
theorem drG_of {s : ByteArray} {x y z : Int} (hs : nameB s = true) (hx : 1 ≤ x ∧ x ≤ 20) (hy : 0 ≤ y ∧ y ≤ 5) (hz : 0 ≤ z ∧ z ≤ 290) : DrG ⟨s, x, y, z⟩ := by
  refine ⟨?_, hx.2, hy.2, hz.2⟩
  unfold grpB
  simp only [Bool.and_eq_true]
  exact ⟨hs, withinB_iff.2 (by omega), withinB_iff.2 (by omega), withinB_iff.2 (by omega)⟩
/-- Drawn groups: a row, their names those of some of the first k. -/
def GRow (w : World) (base : Nat) (v : Value) (q k : Nat) (xs : List GrpZ) : Prop := w.ownsRow base 98 4 v q (cK kGrp xs) ∧ xs.length = q ∧ (xs.map GrpZ.id).Sublist (gNames.take k) ∧ ∀ x ∈ xs, DrG x
theorem GRow.wr {w w' : World} {base lo hi q k : Nat} {v : Value} {xs : List GrpZ} (h : GRow w base v q k xs) (hw : Wr lo hi w w') (hd : hi ≤ base) : GRow w' base v q k xs := ⟨own_wrv h.1 hw hd, h.2⟩
theorem GRow.more {w : World} {base q k : Nat} {v : Value} {xs : List GrpZ} (h : GRow w base v q k xs) : GRow w base v q (k + 1) xs := ⟨h.1, h.2.1, h.2.2.1.trans (List.take_sublist_take_left (by omega)), h.2.2.2⟩
theorem GRow.snoc {w : World} {base q k : Nat} {v : Value} {xs : List GrpZ} {x : GrpZ} (h : w.ownsRow base 98 4 v (q + 1) (cK kGrp (xs ++ [x]))) (h2 : xs.length = q ∧ (xs.map GrpZ.id).Sublist (gNames.take k) ∧ ∀ x ∈ xs, DrG x) (hs : gNames[k]? = some x.id) (hx : DrG x) : GRow w base v (q + 1) (k + 1) (xs ++ [x]) := by
  refine ⟨h, by rw [List.length_append, h2.1]; rfl, ?_, fun y hy => ?_⟩
  · rw [List.map_append, List.take_add_one, hs]
    exact List.Sublist.append h2.2.1 (List.Sublist.refl _)
  · rcases List.mem_append.1 hy with h | h
    · exact h2.2.2 y h
    · have : y = x := by simpa using h
      subst this; exact hx
theorem grp_fine {x : GrpZ} (h : grpB x = true) : kGrp.fine x := by
  obtain ⟨s, p, b, k⟩ := x
  obtain ⟨_, _, h1, h2, h3, h4⟩ := grp_ok h
  exact ⟨by show s.size ≤ 1048576; omega, ⟨by show _ ≤ p; omega, by show p ≤ _; omega⟩, ⟨by show _ ≤ b; omega, by show b ≤ _; omega⟩, ⟨by show _ ≤ k; omega, by show k ≤ _; omega⟩⟩

set_option maxHeartbeats 4000000 in
set_option maxRecDepth 100000 in
theorem l17Draw_calls (g n c a : Nat) (A : Option Addr) (w : World) (h : Src w g A n c a) (ha : a ≤ 137438953472) :
    Calls Tryz.prog 131 #[.pointer (some ⟨g, 0, none⟩)] w fun e w' => ∃ A1 m1 c1 xs, e = .returned (.slice A1 m1 c1) ∧ RdK kGrp w' A1 m1 xs ∧ m1 ≤ 6 ∧ m1 ≤ c1 ∧ (xs.map GrpZ.id).Sublist gNames ∧ (∀ x ∈ xs, DrG x) ∧ Wr g (g + 1) w w' := by
  have hg := h.lt
  obtain ⟨w0, hw0⟩ : ∃ w0, w0 = w.alloc (.cells (gNames.map fun t => Value.string t).toArray 9) := ⟨_, rfl⟩
  have hb0 : Below w.heap.size w w0 := by rw [hw0]; exact (Below.refl _ _).alloc (Nat.le_refl _) _
  have hz0 : w0.heap.size = w.heap.size + 1 := by rw [hw0]; simp
  have HT0 : Hid (TxtG w0 w.heap.size gNames) := by rw [hw0]; exact TxtG.new w gNames _
  obtain ⟨w1, hw1⟩ : ∃ w1, w1 = w0.alloc (.cells #[] 98) := ⟨_, rfl⟩
  have hb1 : Below w0.heap.size w0 w1 := by rw [hw1]; exact (Below.refl _ _).alloc (Nat.le_refl _) _
  have hr1 := World.ownsRow_lit (base := w0.heap.size) (e := 98) (size := 4) w0 #[] 0 (Nat.le_refl _) (by simp) rfl
  have HR1 : Hid (GRow w1 w0.heap.size (.slice (some ⟨w0.heap.size, 0, none⟩) 0 0) 0 0 []) := by rw [hw1]; exact ⟨by simpa [cK] using hr1, rfl, by simp, by simp⟩
  have HS1 := hide ((h.below hb0 hg).below hb1 (by omega))
  have HW1 : Hid (Wr g (g + 1) w0 w1) := Wr.of_below hb1
  have HB0 := hide hb0
  clear h hb0 hb1 hr1
  go_enter Tryz.func131, Tryz.ntmps131
  go_wp2_with fail
  rw [show w.alloc (.cells #[.string ⟨#[103, 97]⟩, .string ⟨#[103, 98]⟩, .string ⟨#[103, 99]⟩, .string ⟨#[103, 100]⟩, .string ⟨#[103, 101]⟩, .string ⟨#[103, 102]⟩] 9) = w0 from hw0.symm]
  rw [show w.heap.size + 1 = w0.heap.size from hz0.symm, ← hw1]
  have hz0a : w.heap.size < w0.heap.size := by omega
  clear hw0 hw1 hz0
  go_loopw [4, 5] (fun v i wr => ∃ (k q a' : Nat) (xs : List GrpZ), k ≤ 6 ∧ i = .int .i64 k ∧ q ≤ k ∧ Hid (GRow wr w0.heap.size v q k xs) ∧ Hid (a' ≤ a + 8 * k ∧ Src wr g A n c a' ∧ Wr g (g + 1) w0 wr)) (fun _ i _ => 6 - (intOf i).toNat)
  case atStart => exact ⟨0, 0, a, [], Nat.zero_le _, rfl, Nat.le_refl _, HR1, Nat.le_refl _, HS1.out, HW1.out⟩
  case round => as_aux_lemma =>
    obtain ⟨k, q, a', xs, hk, rfl, hqk, HRW, HR⟩ := hrel
    have hzr := HR.out.2.2.size
    by_cases hlt : k < 6
    · have O := hide (pick_calls g n c a' A 3 wr HR.out.2.1 (by have := HR.out.1; omega) (by unfold I64; omega))
      go_wp2_with fail
      refine O.out.mono ?_
      rintro e w2 ⟨b, a2, rfl, hb3, ha2, s2, r2⟩
      have hz2 := r2.size
      have HRW2 := hide (HRW.out.wr r2 (by omega))
      have HF2 := hide (And.intro (show a2 ≤ a + 8 * k + 2 by have := HR.out.1; omega) (And.intro s2 (HR.out.2.2.trans r2)))
      clear ha2 s2 r2 O hb3
      by_cases hb : 0 < b
      · have hb' : (0 : Int) < (b : Int) := by omega
        obtain ⟨s, hs⟩ : ∃ s, gNames[k]? = some s := ⟨_, List.getElem?_eq_getElem (show k < gNames.length from hlt)⟩
        have hss := gNames_ok s (List.mem_of_getElem? hs)
        have hc := (HT0.out.wr HF2.out.2.2 (by omega)).2 k s hs
        have DH := hide (l17DrawOne_calls g n c a2 A s w2 HF2.out.2.1 (by have := HF2.out.1; omega))
        have HS := hide hs
        clear hs
        go_wp2_with fail
        clear hc
        refine DH.out.mono ?_
        rintro e w3 ⟨x, y, z, a3, rfl, hx, hy, hz, ha3, s3, r3⟩
        have hz3 := r3.size
        have HRW3 := hide (HRW2.out.wr r3 (by omega))
        have HF3 := hide (And.intro (show a3 ≤ a + 8 * (k + 1) by have := HF2.out.1; omega) (And.intro s3 (HF2.out.2.2.trans r3)))
        have HD := hide (drG_of hss.1 hx hy hz)
        clear ha3 s3 r3 DH HRW2 HF2 hx hy hz
        go_wp2_with (at_builtin; refine appGroup rfl _ _ rfl w0.heap.size u4 q xs ⟨s, x, y, z⟩ rfl HRW3.out.1 rfl (by omega) (by omega) ?_; intro v4 w4 hown4 hb4 hz4)
        go_roundw
        case rel => exact ⟨k + 1, q + 1, a3, xs ++ [⟨s, x, y, z⟩], by omega, by go_num, by omega, GRow.snoc hown4 HRW3.out.2 HS.out HD.out, HF3.out.1, HF3.out.2.1.below hb4 (by omega), HF3.out.2.2.thenB hb4 (Nat.le_refl _)⟩
        case measure => simp [intOf]; omega
      · have hb' : ¬ (0 : Int) < (b : Int) := by omega
        go_wp2_with fail
        go_roundw
        case rel => exact ⟨k + 1, q, a2, xs, by omega, by go_num, by omega, HRW2.out.more, by have := HF2.out.1; omega, HF2.out.2.1, HF2.out.2.2⟩
        case measure => simp [intOf]; omega
    · have hk6 : k = 6 := by omega
      subst hk6
      have hown := HRW.out.1
      obtain ⟨A6, c6, hv⟩ := own_slice hown
      subst hv
      have HO := hide hown
      have HE := hide HRW.out.2
      have HW := hide HR.out.2.2
      clear hown HRW HR
      go_wp2
      go_ret
      exact ⟨A6, q, c6, xs, rfl, RdK.of_own (K := kGrp) HO.out HE.out.1 (fun x hx => grp_fine (HE.out.2.2 x hx).1), by omega, own_cap HO.out, HE.out.2.1, HE.out.2.2, (Wr.of_below HB0.out).trans HW.out⟩

theorem r8Groups_calls (n c : Nat) (A : Option Addr) (bs : List Int) (w : World) (h : RdY w A n bs) (hn : n ≤ 1048576) :
    Calls Tryz.prog 53 #[.slice A n c] w fun e w' => ∃ A1 m1 c1 xs, e = .returned (.slice A1 m1 c1) ∧ RdK kGrp w' A1 m1 xs ∧ m1 ≤ 6 ∧ m1 ≤ c1 ∧ grpsB xs = true ∧ (∀ x ∈ xs, DrG x) ∧ Below w.heap.size w w' := by
  have F := hide (l00From_calls n c A bs w h hn)
  clear h
  go_enter Tryz.func53, Tryz.ntmps53
  go_wp2_with fail
  refine F.out.mono ?_
  rintro e w1 ⟨rfl, s1, hb1, hz1⟩
  have D := hide (l17Draw_calls w.heap.size n c 0 A w1 s1 (by omega))
  have HB1 := hide hb1
  clear s1 hb1 F
  go_wp2_with fail
  refine D.out.mono ?_
  rintro e w2 ⟨A1, m1, c1, xs, rfl, hq1, hm1, hc1, hsub, hdr, r2⟩
  have HB2 := hide (Wr.below HB1.out r2 (Nat.le_refl _) HB1.out.size)
  have H1 := hide (And.intro hq1 (And.intro (grps_of hsub (fun x hx => (hdr x hx).1)) hdr))
  clear hq1 hsub hdr r2 D
  go_wp2
  go_ret
  exact ⟨A1, m1, c1, xs, rfl, H1.out.1, hm1, hc1, H1.out.2.1, H1.out.2.2, HB2.out⟩

end Go.Proofs.YtcclfmapbgdpdaaGreatDoor
