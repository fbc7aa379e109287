/- The draw of helpers and tasks. -/
import Derived.Test.YtcclfmapbgdpdaaGreatDoorDraw24
import Derived.Test.YtcclfmapbgdpdaaGreatDoorHelG
import Derived.Test.YtcclfmapbgdpdaaGreatDoorDec
import Derived.Deep.DeepCutAuto
namespace Go.Proofs.YtcclfmapbgdpdaaGreatDoor
open Go.RowKit
set_option linter.unusedVariables false

def hNames : List ByteArray := [⟨#[104, 97]⟩, ⟨#[104, 98]⟩, ⟨#[104, 99]⟩, ⟨#[104, 100]⟩, ⟨#[104, 101]⟩, ⟨#[104, 102]⟩]
def tNames : List ByteArray := [⟨#[116, 97]⟩, ⟨#[116, 98]⟩, ⟨#[116, 99]⟩, ⟨#[116, 100]⟩]
abbrev dNames : List ByteArray := [⟨#[]⟩, ⟨#[97, 97]⟩, ⟨#[122, 122]⟩]
theorem dNames_size {s : ByteArray} (h : s ∈ dNames) : s.size ≤ 10 := by
  simp only [dNames, List.mem_cons, List.not_mem_nil, or_false] at h
  rcases h with rfl | rfl | rfl <;> decide
theorem Txts.wr {w w' : World} {b lo hi : Nat} {xs : List ByteArray} (h : Txts w b xs) (hw : Wr lo hi w w') (hB : hi ≤ b) : Txts w' b xs := ⟨Nat.lt_of_lt_of_le h.1 hw.size, fun j s hj => (hw.cell (p := ⟨b, j, none⟩) h.1 (.inr hB)).trans (h.2 j s hj)⟩
theorem Txts.below {w w' : World} {b B : Nat} {xs : List ByteArray} (h : Txts w b xs) (hb : Below B w w') (hB : b < B) : Txts w' b xs := ⟨Nat.lt_of_lt_of_le h.1 hb.size, fun j s hj => (hb.cell (p := ⟨b, j, none⟩) hB).trans (h.2 j s hj)⟩
/-- A row of helpers or tasks, drawn. -/
def HRow (w : World) (base : Nat) (e : TypeId) (v : Value) (q : Nat) (xs : List HlpZ) : Prop := w.ownsRow base e 3 v q (cK kHlp xs) ∧ xs.length = q ∧ ∀ x ∈ xs, kHlp.fine x
theorem HRow.wr {w w' : World} {base lo hi : Nat} {e : TypeId} {v : Value} {q : Nat} {xs : List HlpZ} (h : HRow w base e v q xs) (hw : Wr lo hi w w') (hd : hi ≤ base) : HRow w' base e v q xs := ⟨own_wrv h.1 hw hd, h.2⟩
theorem HRow.below {w w' : World} {base B : Nat} {e : TypeId} {v : Value} {q : Nat} {xs : List HlpZ} (h : HRow w base e v q xs) (hb : Below B w w') (hB : w.heap.size ≤ B) : HRow w' base e v q xs := ⟨own_below h.1 hb hB, h.2⟩
theorem HRow.snoc {w : World} {base : Nat} {e : TypeId} {v : Value} {q : Nat} {xs : List HlpZ} {x : HlpZ} (h : w.ownsRow base e 3 v (q + 1) (cK kHlp (xs ++ [x]))) (hl : xs.length = q) (hf : ∀ x ∈ xs, kHlp.fine x) (hx : kHlp.fine x) : HRow w base e v (q + 1) (xs ++ [x]) :=
  ⟨h, by rw [List.length_append, hl]; rfl, fun y hy => by
    rcases List.mem_append.1 hy with h | h
    · exact hf y h
    · have : y = x := by simpa using h
      subst this; exact hx⟩
theorem HRow.nil (w : World) (e : TypeId) : HRow (w.alloc (.cells #[] e)) w.heap.size e (.slice (some ⟨w.heap.size, 0, none⟩) 0 0) 0 [] := by
  have := World.ownsRow_lit (base := w.heap.size) (e := e) (size := 3) w #[] 0 (Nat.le_refl _) (by simp) rfl
  exact ⟨by simpa [cK] using this, rfl, by simp⟩

/-- What the draw hands back. -/
def DrwPost (g : Nat) (w : World) (e : Ending) (w' : World) : Prop := ∃ A1 m1 c1 xs A2 m2 c2 ys, e = .returned (.tuple #[.slice A1 m1 c1, .slice A2 m2 c2]) ∧ RdK kHlp w' A1 m1 xs ∧ m1 ≤ 1000 ∧ m1 ≤ c1 ∧ RdK kHlp w' A2 m2 ys ∧ m2 ≤ 1000 ∧ m2 ≤ c2 ∧ Wr g (g + 1) w w'
theorem DrwPost.mk {g m1 c1 m2 c2 : Nat} {A1 A2 : Option Addr} {xs ys : List HlpZ} {w w' : World} (h : RdK kHlp w' A1 m1 xs ∧ m1 ≤ 1000 ∧ m1 ≤ c1 ∧ RdK kHlp w' A2 m2 ys ∧ m2 ≤ 1000 ∧ m2 ≤ c2 ∧ Wr g (g + 1) w w') : DrwPost g w (.returned (.tuple #[.slice A1 m1 c1, .slice A2 m2 c2])) w' := ⟨A1, m1, c1, xs, A2, m2, c2, ys, rfl, h⟩
set_option maxHeartbeats 8000000 in
set_option maxRecDepth 100000 in
theorem l24Draw_calls (g n c a : Nat) (A : Option Addr) (w : World) (h : Src w g A n c a) (ha : a ≤ 137438953472) :
    Calls Tryz.prog 110 #[.pointer (some ⟨g, 0, none⟩)] w fun e w' => DrwPost g w e w' := by
  have hg := h.lt
  obtain ⟨w0, hw0⟩ : ∃ w0, w0 = w.alloc (.cells (hNames.map fun t => Value.string t).toArray 9) := ⟨_, rfl⟩
  have hb0 : Below w.heap.size w w0 := by rw [hw0]; exact (Below.refl _ _).alloc (Nat.le_refl _) _
  have hz0 : w0.heap.size = w.heap.size + 1 := by rw [hw0]; simp
  have HT0 : Hid (Txts w0 w.heap.size hNames) := by rw [hw0]; exact Txts.new w hNames _
  obtain ⟨w1, hw1⟩ : ∃ w1, w1 = w0.alloc (.cells #[] 70) := ⟨_, rfl⟩
  have hb1 : Below w0.heap.size w0 w1 := by rw [hw1]; exact (Below.refl _ _).alloc (Nat.le_refl _) _
  have HR1 : Hid (HRow w1 w0.heap.size 70 (.slice (some ⟨w0.heap.size, 0, none⟩) 0 0) 0 []) := by rw [hw1]; exact HRow.nil w0 _
  have HS1 := hide ((h.below hb0 hg).below hb1 (by omega))
  have HW1 : Hid (Wr g (g + 1) w0 w1) := Wr.of_below hb1
  have HB0 := hide hb0
  clear h hb0 hb1
  go_enter Tryz.func110, Tryz.ntmps110
  go_wp2_with fail
  rw [show w.alloc (.cells #[.string ⟨#[104, 97]⟩, .string ⟨#[104, 98]⟩, .string ⟨#[104, 99]⟩, .string ⟨#[104, 100]⟩, .string ⟨#[104, 101]⟩, .string ⟨#[104, 102]⟩] 9) = w0 from hw0.symm]
  rw [show w.heap.size + 1 = w0.heap.size from hz0.symm, ← hw1]
  have hz0a : w.heap.size < w0.heap.size := by omega
  clear hw0 hw1 hz0
  go_loopw [5, 6] (fun v i wr => ∃ (k q a' : Nat) (xs : List HlpZ), k ≤ 6 ∧ i = .int .i64 k ∧ q ≤ k ∧ Hid (HRow wr w0.heap.size 70 v q xs) ∧ Hid (a' ≤ a + 6 * k ∧ Src wr g A n c a' ∧ Wr g (g + 1) w0 wr)) (fun _ i _ => 6 - (intOf i).toNat)
  case atStart => exact ⟨0, 0, a, [], Nat.zero_le _, rfl, Nat.le_refl _, HR1, Nat.le_refl _, HS1.out, HW1.out⟩
  case round => as_aux_lemma =>
    obtain ⟨k, q, a', xs, hk, rfl, hqk, HRW, HR⟩ := hrel
    have hzr := HR.out.2.2.size
    by_cases hlt : k < 6
    · have O := hide (one_calls g n c a' A 4 wr HR.out.2.1 (by have := HR.out.1; omega) (by unfold I64; omega))
      go_wp2_with fail
      refine O.out.mono ?_
      rintro e w2 ⟨b, a2, rfl, ha2, s2, r2⟩
      have hz2 := r2.size
      have HRW2 := hide (HRW.out.wr r2 (by omega))
      have HF2 := hide (And.intro (show a2 ≤ a + 6 * k + 2 by have := HR.out.1; omega) (And.intro s2 (HR.out.2.2.trans r2)))
      clear ha2 s2 r2 O
      cases b
      · obtain ⟨s, hs⟩ : ∃ s, hNames[k]? = some s := ⟨_, List.getElem?_eq_getElem (show k < hNames.length from hlt)⟩
        have hss : s.size ≤ 10 := by
          have := List.mem_of_getElem? hs
          simp only [hNames, List.mem_cons, List.not_mem_nil, or_false] at this
          rcases this with rfl | rfl | rfl | rfl | rfl | rfl <;> decide
        have hc := (HT0.out.wr HF2.out.2.2 (by omega)).2 k s hs
        have DH := hide (l24DrawHelper_calls g n c a2 A s w2 HF2.out.2.1 (by have := HF2.out.1; omega))
        clear hs
        go_wp2_with fail
        clear hc
        refine DH.out.mono ?_
        rintro e w3 ⟨x, y, a3, rfl, hx7, hy1, ha3, s3, r3⟩
        have hz3 := r3.size
        have HRW3 := hide (HRW2.out.wr r3 (by omega))
        have HF3 := hide (And.intro (show a3 ≤ a + 6 * (k + 1) by have := HF2.out.1; omega) (And.intro s3 (HF2.out.2.2.trans r3)))
        clear ha3 s3 r3 DH HRW2 HF2
        go_wp2_with (at_builtin; refine appHelper rfl _ _ rfl w0.heap.size u5 q xs ⟨s, x, y⟩ rfl HRW3.out.1 rfl (by omega) (by omega) ?_; intro v4 w4 hown4 hb4 hz4)
        go_roundw
        case rel => exact ⟨k + 1, q + 1, a3, xs ++ [⟨s, x, y⟩], by omega, by go_num, by omega, HRow.snoc hown4 HRW3.out.2.1 HRW3.out.2.2 ⟨by simp only; omega, ⟨by simp only; omega, by simp only; omega⟩, by simp only; omega, by simp only; omega⟩, HF3.out.1, HF3.out.2.1.below hb4 (by omega), HF3.out.2.2.thenB hb4 (Nat.le_refl _)⟩
        case measure => simp [intOf]; omega
      · go_wp2_with fail
        go_roundw
        case rel => exact ⟨k + 1, q, a2, xs, by omega, by go_num, by omega, HRW2, by have := HF2.out.1; omega, HF2.out.2.1, HF2.out.2.2⟩
        case measure => simp [intOf]; omega
    · have hk6 : k = 6 := by omega
      subst hk6
      obtain ⟨wo, rfl⟩ : ∃ wo : World, wo = wr := ⟨_, rfl⟩
      rw [show ((6 : Nat) : Int) = 6 from rfl]
      obtain ⟨w2, hw2⟩ : ∃ w2, w2 = wo.alloc (.cells (tNames.map fun t => Value.string t).toArray 9) := ⟨_, rfl⟩
      have hb2 : Below wo.heap.size wo w2 := by rw [hw2]; exact (Below.refl _ _).alloc (Nat.le_refl _) _
      have hz2 : w2.heap.size = wo.heap.size + 1 := by rw [hw2]; simp
      have HT2 : Hid (Txts w2 wo.heap.size tNames) := by rw [hw2]; exact Txts.new wo tNames _
      obtain ⟨w3, hw3⟩ : ∃ w3, w3 = w2.alloc (.cells #[] 67) := ⟨_, rfl⟩
      have hb3 : Below w2.heap.size w2 w3 := by rw [hw3]; exact (Below.refl _ _).alloc (Nat.le_refl _) _
      have HP3 : Hid (HRow w3 w2.heap.size 67 (.slice (some ⟨w2.heap.size, 0, none⟩) 0 0) 0 []) := by rw [hw3]; exact HRow.nil w2 _
      have HQ2 := hide (HRW.out.below hb2 (Nat.le_refl _))
      have HS3 := hide ((HR.out.2.1.below hb2 (by omega)).below hb3 (by omega))
      have HW3 : Hid (Wr g (g + 1) w2 w3) := Wr.of_below hb3
      have HW2 := hide (HR.out.2.2.thenB hb2 hzr)
      have ha6 : a' ≤ a + 36 := by have := HR.out.1; omega
      have hz2a : wo.heap.size < w2.heap.size := by omega
      clear hb2 hb3 HRW HR
      go_wp2_with fail
      rw [show wo.alloc (.cells #[.string ⟨#[116, 97]⟩, .string ⟨#[116, 98]⟩, .string ⟨#[116, 99]⟩, .string ⟨#[116, 100]⟩] 9) = w2 from hw2.symm]
      rw [show wo.heap.size + 1 = w2.heap.size from hz2.symm, ← hw3]
      clear hw2 hw3 hz2
      go_loopw [8, 9] (fun v i ww => ∃ (k p a2 : Nat) (ys : List HlpZ), k ≤ 4 ∧ i = .int .i64 k ∧ p ≤ k ∧ Hid (HRow ww w2.heap.size 67 v p ys) ∧ Hid (a2 ≤ a + 36 + 6 * k ∧ Src ww g A n c a2 ∧ Wr g (g + 1) w2 ww)) (fun _ i _ => 4 - (intOf i).toNat)
      case atStart => exact ⟨0, 0, a', [], Nat.zero_le _, rfl, Nat.le_refl _, HP3, by omega, HS3.out, HW3.out⟩
      case round => as_aux_lemma =>
        obtain ⟨k, p, a2, ys, hk, rfl, hpk, HPW, HR⟩ := hrel
        have hzr := HR.out.2.2.size
        by_cases hlt : k < 4
        · have O := hide (one_calls g n c a2 A 3 wr HR.out.2.1 (by have := HR.out.1; omega) (by unfold I64; omega))
          go_wp2_with fail
          refine O.out.mono ?_
          rintro e w5 ⟨b, a5, rfl, ha5, s5, r5⟩
          have hz5 := r5.size
          have HPW5 := hide (HPW.out.wr r5 (by omega))
          have HF5 := hide (And.intro (show a5 ≤ a + 36 + 6 * k + 2 by have := HR.out.1; omega) (And.intro s5 (HR.out.2.2.trans r5)))
          clear ha5 s5 r5 O
          cases b
          · obtain ⟨s, hs⟩ : ∃ s, tNames[k]? = some s := ⟨_, List.getElem?_eq_getElem (show k < tNames.length from hlt)⟩
            have hss : s.size ≤ 10 := by
              have := List.mem_of_getElem? hs
              simp only [tNames, List.mem_cons, List.not_mem_nil, or_false] at this
              rcases this with rfl | rfl | rfl | rfl <;> decide
            have hc := (HT2.out.wr HF5.out.2.2 (by omega)).2 k s hs
            have DH := hide (l24DrawTask_calls g n c a5 A s w5 HF5.out.2.1 (by have := HF5.out.1; omega))
            clear hs
            go_wp2_with fail
            clear hc
            refine DH.out.mono ?_
            rintro e w6 ⟨x, y, a6, rfl, hx7, hy1, ha6', s6, r6⟩
            have hz6 := r6.size
            have HPW6 := hide (HPW5.out.wr r6 (by omega))
            have HF6 := hide (And.intro (show a6 ≤ a + 36 + 6 * (k + 1) by have := HF5.out.1; omega) (And.intro s6 (HF5.out.2.2.trans r6)))
            clear ha6' s6 r6 DH HPW5 HF5
            go_wp2_with (at_builtin; refine appTask rfl _ _ rfl w2.heap.size u8 p ys ⟨s, x, y⟩ rfl HPW6.out.1 rfl (by omega) (by omega) ?_; intro v7 w7 hown7 hb7 hz7)
            go_roundw
            case rel => exact ⟨k + 1, p + 1, a6, ys ++ [⟨s, x, y⟩], by omega, by go_num, by omega, HRow.snoc hown7 HPW6.out.2.1 HPW6.out.2.2 ⟨by simp only; omega, ⟨by simp only; omega, by simp only; omega⟩, by simp only; omega, by simp only; omega⟩, HF6.out.1, HF6.out.2.1.below hb7 (by omega), HF6.out.2.2.thenB hb7 (Nat.le_refl _)⟩
            case measure => simp [intOf]; omega
          · go_wp2_with fail
            go_roundw
            case rel => exact ⟨k + 1, p, a5, ys, by omega, by go_num, by omega, HPW5, by have := HF5.out.1; omega, HF5.out.2.1, HF5.out.2.2⟩
            case measure => simp [intOf]; omega
        · have hk4 : k = 4 := by omega
          subst hk4
          rw [show ((4 : Nat) : Int) = 4 from rfl]
          have HQ := hide (HQ2.out.wr HR.out.2.2 (by omega))
          have P := hide (pick_calls g n c a2 A 24 wr HR.out.2.1 (by have := HR.out.1; omega) (by unfold I64; omega))
          have HWr := hide ((Wr.of_below HB0.out).trans (HW2.out.trans HR.out.2.2) : Wr g (g + 1) w wr)
          have ha2 : a2 ≤ a + 60 := by have := HR.out.1; omega
          clear HR
          go_wp2_with fail
          refine P.out.mono ?_
          rintro e w5 ⟨z, a5, rfl, hz, ha5, s5, r5⟩
          have hz24 : z < 24 := by omega
          have hz5 := r5.size
          have HQ5 := hide (HQ.out.wr r5 (by omega))
          have HP5 := hide (HPW.out.wr r5 (by omega))
          have HS5 := hide s5
          have HW5 := hide (HWr.out.trans r5)
          clear hz s5 r5 P HQ HPW HWr
          by_cases z0 : z = 0
          · subst z0
            have T6 := hide (text_lit g n c a5 3 A dNames w5 HS5.out (by omega) (by decide) (by decide))
            go_wp2_with fail
            refine T6.out.mono ?_
            rintro e w6 ⟨s6, a6, rfl, hs6, ha6', q6, r6⟩
            have hss := dNames_size hs6
            have hz6 := r6.size
            have HQ6 := hide (HQ5.out.wr r6 (by omega))
            have HP6 := hide (HP5.out.wr r6 (by omega))
            have HW6 := hide (HW5.out.trans r6)
            have T7 := hide (among_lit g n c a6 4 A [-1, 0, 7, 8] w6 q6 (by omega) (by decide) (by decide) (by unfold I64; decide))
            clear q6 r6 hs6 T6 HQ5 HP5 HW5 HS5
            go_wp2_with fail
            refine T7.out.mono ?_
            rintro e w7 ⟨x7, a7, rfl, hx7, ha7, q7, r7⟩
            have hx7b : -1 ≤ x7 ∧ x7 ≤ 8 := by simp at hx7; omega
            have hz7 := r7.size
            have HQ7 := hide (HQ6.out.wr r7 (by omega))
            have HP7 := hide (HP6.out.wr r7 (by omega))
            have HW7 := hide (HW6.out.trans r7)
            have T8 := hide (among_lit g n c a7 4 A [-1, 0, 1000, 1001] w7 q7 (by omega) (by decide) (by decide) (by unfold I64; decide))
            clear q7 r7 hx7 T7 HQ6 HP6 HW6
            go_wp2_with fail
            refine T8.out.mono ?_
            rintro e w8 ⟨x8, a8, rfl, hx8, ha8, q8, r8⟩
            have hx8b : -1 ≤ x8 ∧ x8 ≤ 1001 := by simp at hx8; omega
            have hz8 := r8.size
            have HQ8 := hide (HQ7.out.wr r8 (by omega))
            have HP8 := hide (HP7.out.wr r8 (by omega))
            have HW8 := hide (HW7.out.trans r8)
            clear q8 r8 hx8 T8 HQ7 HP7 HW7
            go_wp2_with (at_builtin; refine appHelperG rfl _ _ rfl w0.heap.size u5 q xs ⟨s6, x7, x8⟩ rfl HQ8.out.1 rfl (by omega) (by omega) ?_; intro v9 w9 hown9 hgr9 hb9 hz9)
            have hbA : Below w8.heap.size w8 (w8.alloc (.cells #[.string s6, .int .i64 x7, .int .i64 x8] 70)) := (Below.refl _ _).alloc (Nat.le_refl _) _
            have hoth := own_kept (own_below HP8.out.1 hbA (Nat.le_refl _)) (own_below HQ8.out.1 hbA (Nat.le_refl _)) hgr9 (by decide)
            have hnew := HRow.snoc hown9 HQ8.out.2.1 HQ8.out.2.2 (x := ⟨s6, x7, x8⟩) ⟨by simp only; omega, ⟨by simp only; omega, by simp only; omega⟩, by simp only; omega, by simp only; omega⟩
            obtain ⟨A9, c9, hv1⟩ := own_slice hown9
            obtain ⟨A8, c8, hv2⟩ := own_slice hoth
            subst hv1
            subst hv2
            go_wp2
            go_ret2
            exact DrwPost.mk ⟨RdK.of_own (K := kHlp) hown9 hnew.2.1 hnew.2.2, by omega, own_cap hown9, RdK.of_own (K := kHlp) hoth HP8.out.2.1 HP8.out.2.2, by omega, own_cap hoth, HW8.out.thenB hb9 (by omega)⟩
          by_cases z1 : z = 1
          · subst z1
            have T6 := hide (text_lit g n c a5 3 A dNames w5 HS5.out (by omega) (by decide) (by decide))
            go_wp2_with fail
            refine T6.out.mono ?_
            rintro e w6 ⟨s6, a6, rfl, hs6, ha6', q6, r6⟩
            have hss := dNames_size hs6
            have hz6 := r6.size
            have HQ6 := hide (HQ5.out.wr r6 (by omega))
            have HP6 := hide (HP5.out.wr r6 (by omega))
            have HW6 := hide (HW5.out.trans r6)
            have T7 := hide (among_lit g n c a6 4 A [-1, 0, 7, 8] w6 q6 (by omega) (by decide) (by decide) (by unfold I64; decide))
            clear q6 r6 hs6 T6 HQ5 HP5 HW5 HS5
            go_wp2_with fail
            refine T7.out.mono ?_
            rintro e w7 ⟨x7, a7, rfl, hx7, ha7, q7, r7⟩
            have hx7b : -1 ≤ x7 ∧ x7 ≤ 8 := by simp at hx7; omega
            have hz7 := r7.size
            have HQ7 := hide (HQ6.out.wr r7 (by omega))
            have HP7 := hide (HP6.out.wr r7 (by omega))
            have HW7 := hide (HW6.out.trans r7)
            have T8 := hide (among_lit g n c a7 4 A [-1, 0, 1000, 1001] w7 q7 (by omega) (by decide) (by decide) (by unfold I64; decide))
            clear q7 r7 hx7 T7 HQ6 HP6 HW6
            go_wp2_with fail
            refine T8.out.mono ?_
            rintro e w8 ⟨x8, a8, rfl, hx8, ha8, q8, r8⟩
            have hx8b : -1 ≤ x8 ∧ x8 ≤ 1001 := by simp at hx8; omega
            have hz8 := r8.size
            have HQ8 := hide (HQ7.out.wr r8 (by omega))
            have HP8 := hide (HP7.out.wr r8 (by omega))
            have HW8 := hide (HW7.out.trans r8)
            clear q8 r8 hx8 T8 HQ7 HP7 HW7
            go_wp2_with (at_builtin; refine appTaskG rfl _ _ rfl w2.heap.size u8 p ys ⟨s6, x7, x8⟩ rfl HP8.out.1 rfl (by omega) (by omega) ?_; intro v9 w9 hown9 hgr9 hb9 hz9)
            have hbA : Below w8.heap.size w8 (w8.alloc (.cells #[.string s6, .int .i64 x7, .int .i64 x8] 67)) := (Below.refl _ _).alloc (Nat.le_refl _) _
            have hoth := own_kept (own_below HQ8.out.1 hbA (Nat.le_refl _)) (own_below HP8.out.1 hbA (Nat.le_refl _)) hgr9 (by decide)
            have hnew := HRow.snoc hown9 HP8.out.2.1 HP8.out.2.2 (x := ⟨s6, x7, x8⟩) ⟨by simp only; omega, ⟨by simp only; omega, by simp only; omega⟩, by simp only; omega, by simp only; omega⟩
            obtain ⟨A9, c9, hv1⟩ := own_slice hoth
            obtain ⟨A8, c8, hv2⟩ := own_slice hown9
            subst hv1
            subst hv2
            go_wp2
            go_ret2
            exact DrwPost.mk ⟨RdK.of_own (K := kHlp) hoth HQ8.out.2.1 HQ8.out.2.2, by omega, own_cap hoth, RdK.of_own (K := kHlp) hown9 hnew.2.1 hnew.2.2, by omega, own_cap hown9, HW8.out.thenB hb9 (by omega)⟩
          by_cases z2 : z = 2
          · subst z2
            have T6 := hide (among_lit g n c a5 2 A [10, 11] w5 HS5.out (by omega) (by decide) (by decide) (by unfold I64; decide))
            go_wp2_with fail
            refine T6.out.mono ?_
            rintro e w6 ⟨m, a6, rfl, hm, ha6', q6, r6⟩
            have hm9 : 10 ≤ m ∧ m ≤ 11 := by simp at hm; omega
            have hz6 := r6.size
            obtain ⟨w7, hw7⟩ : ∃ w7, w7 = w6.alloc (.cells #[] 70) := ⟨_, rfl⟩
            have hb7 : Below w6.heap.size w6 w7 := by rw [hw7]; exact (Below.refl _ _).alloc (Nat.le_refl _) _
            have HN7 : Hid (HRow w7 w6.heap.size 70 (.slice (some ⟨w6.heap.size, 0, none⟩) 0 0) 0 []) := by rw [hw7]; exact HRow.nil w6 _
            have HP7 := hide (HP5.out.wr r6 (by omega))
            have HS7 := hide (q6.below hb7 (by omega))
            have HW7 := hide (HW5.out.trans r6)
            have HW70 : Hid (Wr g (g + 1) w6 w7) := Wr.of_below hb7
            have hz7 : w6.heap.size < w7.heap.size := by rw [hw7]; simp
            have hz05 : w0.heap.size ≤ w6.heap.size := by omega
            clear q6 r6 hm T6 HQ5 HP5 HW5 HS5 hb7
            go_wp2_with fail
            rw [← hw7]
            clear hw7
            go_loopw [5, 11] (fun v i wr => ∃ (k a2 : Nat) (ys : List HlpZ), (k : Int) ≤ m ∧ i = .int .i64 k ∧ Hid (HRow wr w6.heap.size 70 v k ys) ∧ Hid (a2 ≤ a6 + 4 * k ∧ Src wr g A n c a2 ∧ Wr g (g + 1) w6 wr)) (fun _ i _ => 11 - (intOf i).toNat)
            case atStart => exact ⟨0, a6, [], by omega, rfl, HN7, by omega, HS7.out, HW70.out⟩
            case round => as_aux_lemma =>
              obtain ⟨k, a2, ys, hk, rfl, HNW, HR⟩ := hrel
              have hzr := HR.out.2.2.size
              by_cases hlt : (k : Int) < m
              · obtain ⟨u, hu⟩ : ∃ u : UInt8, IntKind.u8.wrap (97 + (k : Int)) = (u.toNat : Int) := ⟨UInt8.ofNat (97 + k), by
                  have e1 : (UInt8.ofNat (97 + k)).toNat = 97 + k := by rw [UInt8.toNat_ofNat']; omega
                  rw [e1, IntKind.wrap_u8]; omega⟩
                obtain ⟨wd, hwd⟩ : ∃ wd, wd = wr.alloc (.cells #[.int .u8 (u.toNat : Int)] 5) := ⟨_, rfl⟩
                have hbd : Below wr.heap.size wr wd := by rw [hwd]; exact (Below.refl _ _).alloc (Nat.le_refl _) _
                have hcv : (convert 22 9 (.slice (some ⟨wr.heap.size, 0, none⟩) 1 1)).run Tryz.prog wd = .ok (.string ⟨#[u]⟩) wd := by
                  have hown := World.ownsRow_lit (base := wr.heap.size) (e := 5) (size := 1) wr #[.int .u8 (u.toNat : Int)] 1 (Nat.le_refl _) (by unfold maxLen; omega) rfl
                  rw [← hwd] at hown
                  exact conv_own (l := [u]) (base := wr.heap.size) hown rfl (by omega)
                have hcs := fun W : World => run_string_add_sum (P := Tryz.prog) W ⟨#[110]⟩ ⟨#[u]⟩ (by have : (⟨#[110]⟩ : ByteArray).size = 1 := rfl; have : (⟨#[u]⟩ : ByteArray).size = 1 := rfl; omega)
                have hzd := hbd.size
                have HNd := hide (HNW.out.below hbd (Nat.le_refl _))
                have HRd := hide (And.intro HR.out.1 (And.intro (HR.out.2.1.below hbd (by omega)) (HR.out.2.2.thenB hbd (by omega))))
                obtain ⟨sx, hsx⟩ : ∃ sx : ByteArray, sx = ⟨#[110]⟩ ++ ⟨#[u]⟩ := ⟨_, rfl⟩
                have hsz : sx.size ≤ 2 := by rw [hsx, ByteArray.size_append]; have : (⟨#[110]⟩ : ByteArray).size = 1 := rfl; have : (⟨#[u]⟩ : ByteArray).size = 1 := rfl; omega
                have DH := hide (l24DrawHelper_calls g n c a2 A sx wd HRd.out.2.1 (by have := HRd.out.1; omega))
                rw [hwd] at hcv
                clear hbd HNW HR
                go_wp2_with fail
                rw [← hwd, ← hsx]
                clear hwd hsx hcs hcv hu
                refine DH.out.mono ?_
                rintro e w9 ⟨x, y, a9, rfl, hx7, hy1, ha9, s9, r9⟩
                have hz9 := r9.size
                have HN9 := hide (HNd.out.wr r9 (by omega))
                have HF9 := hide (And.intro (show a9 ≤ a6 + 4 * (k + 1) by have := HRd.out.1; omega) (And.intro s9 (HRd.out.2.2.trans r9)))
                clear ha9 s9 r9 DH HNd HRd
                go_wp2_with (at_builtin; refine appHelper rfl _ _ rfl w6.heap.size u5 k ys ⟨sx, x, y⟩ rfl HN9.out.1 rfl (by omega) (by omega) ?_; intro v10 w10 hown10 hb10 hz10)
                go_roundw
                case rel => exact ⟨k + 1, a9, ys ++ [⟨sx, x, y⟩], by omega, by go_num, HRow.snoc hown10 HN9.out.2.1 HN9.out.2.2 ⟨by simp only; omega, ⟨by simp only; omega, by simp only; omega⟩, by simp only; omega, by simp only; omega⟩, HF9.out.1, HF9.out.2.1.below hb10 (by omega), HF9.out.2.2.thenB hb10 (by omega)⟩
                case measure => simp [intOf]; omega
              · have HQ9 := hide (HP7.out.wr HR.out.2.2 (by omega))
                have HW9 := hide (HW7.out.trans HR.out.2.2)
                obtain ⟨A9, c9, hv1⟩ := own_slice HNW.out.1
                obtain ⟨A8, c8, hv2⟩ := own_slice HQ9.out.1
                subst hv1
                subst hv2
                clear HR
                go_wp2
                go_ret2
                exact DrwPost.mk ⟨RdK.of_own (K := kHlp) HNW.out.1 HNW.out.2.1 HNW.out.2.2, by omega, own_cap HNW.out.1, RdK.of_own (K := kHlp) HQ9.out.1 HQ9.out.2.1 HQ9.out.2.2, by omega, own_cap HQ9.out.1, HW9.out⟩
          by_cases z3 : z = 3
          · subst z3
            have T6 := hide (among_lit g n c a5 2 A [8, 9] w5 HS5.out (by omega) (by decide) (by decide) (by unfold I64; decide))
            go_wp2_with fail
            refine T6.out.mono ?_
            rintro e w6 ⟨m, a6, rfl, hm, ha6', q6, r6⟩
            have hm9 : 8 ≤ m ∧ m ≤ 9 := by simp at hm; omega
            have hz6 := r6.size
            obtain ⟨w7, hw7⟩ : ∃ w7, w7 = w6.alloc (.cells #[] 67) := ⟨_, rfl⟩
            have hb7 : Below w6.heap.size w6 w7 := by rw [hw7]; exact (Below.refl _ _).alloc (Nat.le_refl _) _
            have HN7 : Hid (HRow w7 w6.heap.size 67 (.slice (some ⟨w6.heap.size, 0, none⟩) 0 0) 0 []) := by rw [hw7]; exact HRow.nil w6 _
            have HQ7 := hide (HQ5.out.wr r6 (by omega))
            have HS7 := hide (q6.below hb7 (by omega))
            have HW7 := hide (HW5.out.trans r6)
            have HW70 : Hid (Wr g (g + 1) w6 w7) := Wr.of_below hb7
            have hz7 : w6.heap.size < w7.heap.size := by rw [hw7]; simp
            have hz05 : w0.heap.size ≤ w6.heap.size := by omega
            clear q6 r6 hm T6 HQ5 HP5 HW5 HS5 hb7
            go_wp2_with fail
            rw [← hw7]
            clear hw7
            go_loopw [8, 13] (fun v i wr => ∃ (k a2 : Nat) (ys : List HlpZ), (k : Int) ≤ m ∧ i = .int .i64 k ∧ Hid (HRow wr w6.heap.size 67 v k ys) ∧ Hid (a2 ≤ a6 + 4 * k ∧ Src wr g A n c a2 ∧ Wr g (g + 1) w6 wr)) (fun _ i _ => 9 - (intOf i).toNat)
            case atStart => exact ⟨0, a6, [], by omega, rfl, HN7, by omega, HS7.out, HW70.out⟩
            case round => as_aux_lemma =>
              obtain ⟨k, a2, ys, hk, rfl, HNW, HR⟩ := hrel
              have hzr := HR.out.2.2.size
              by_cases hlt : (k : Int) < m
              · have D := hide (l01Dec_calls (k : Int) wr (by unfold I64; omega))
                go_wp2_with fail
                refine D.out.mono ?_
                rintro e wd ⟨rfl, hbd⟩
                have hzd := hbd.size
                have HNd := hide (HNW.out.below hbd (Nat.le_refl _))
                have HRd := hide (And.intro HR.out.1 (And.intro (HR.out.2.1.below hbd (by omega)) (HR.out.2.2.thenB hbd (by omega))))
                have DH := hide (l24DrawTask_calls g n c a2 A (⟨#[110]⟩ ++ decZ k) wd HRd.out.2.1 (by have := HRd.out.1; omega))
                have hds := itoa_len (n := (k : Int)) (by unfold I64; omega)
                have hcs := fun W : World => run_string_add_sum (P := Tryz.prog) W ⟨#[110]⟩ (decZ k) (by have : (⟨#[110]⟩ : ByteArray).size = 1 := rfl; omega)
                obtain ⟨sx, hsx⟩ : ∃ sx : ByteArray, sx = ⟨#[110]⟩ ++ decZ k := ⟨_, rfl⟩
                have hsz : sx.size ≤ 21 := by rw [hsx, ByteArray.size_append]; have : (⟨#[110]⟩ : ByteArray).size = 1 := rfl; omega
                rw [← hsx] at DH
                clear hbd HNW HR D
                go_wp2_with fail
                rw [← hsx]
                clear hsx hcs hds
                refine DH.out.mono ?_
                rintro e w9 ⟨x, y, a9, rfl, hx7, hy1, ha9, s9, r9⟩
                have hz9 := r9.size
                have HN9 := hide (HNd.out.wr r9 (by omega))
                have HF9 := hide (And.intro (show a9 ≤ a6 + 4 * (k + 1) by have := HRd.out.1; omega) (And.intro s9 (HRd.out.2.2.trans r9)))
                clear ha9 s9 r9 DH HNd HRd
                go_wp2_with (at_builtin; refine appTask rfl _ _ rfl w6.heap.size u8 k ys ⟨sx, x, y⟩ rfl HN9.out.1 rfl (by omega) (by omega) ?_; intro v10 w10 hown10 hb10 hz10)
                go_roundw
                case rel => exact ⟨k + 1, a9, ys ++ [⟨sx, x, y⟩], by omega, by go_num, HRow.snoc hown10 HN9.out.2.1 HN9.out.2.2 ⟨by simp only; omega, ⟨by simp only; omega, by simp only; omega⟩, by simp only; omega, by simp only; omega⟩, HF9.out.1, HF9.out.2.1.below hb10 (by omega), HF9.out.2.2.thenB hb10 (by omega)⟩
                case measure => simp [intOf]; omega
              · have HQ9 := hide (HQ7.out.wr HR.out.2.2 (by omega))
                have HW9 := hide (HW7.out.trans HR.out.2.2)
                obtain ⟨A9, c9, hv1⟩ := own_slice HQ9.out.1
                obtain ⟨A8, c8, hv2⟩ := own_slice HNW.out.1
                subst hv1
                subst hv2
                clear HR
                go_wp2
                go_ret2
                exact DrwPost.mk ⟨RdK.of_own (K := kHlp) HQ9.out.1 HQ9.out.2.1 HQ9.out.2.2, by omega, own_cap HQ9.out.1, RdK.of_own (K := kHlp) HNW.out.1 HNW.out.2.1 HNW.out.2.2, by omega, own_cap HNW.out.1, HW9.out⟩
          have y0 : ((z : Int) == 0) = false := by simp; omega
          have y1 : ((z : Int) == 1) = false := by simp; omega
          have y2 : ((z : Int) == 2) = false := by simp; omega
          have y3 : ((z : Int) == 3) = false := by simp; omega
          obtain ⟨A9, c9, hv1⟩ := own_slice HQ5.out.1
          obtain ⟨A8, c8, hv2⟩ := own_slice HP5.out.1
          subst hv1
          subst hv2
          go_wp2
          go_ret2
          exact DrwPost.mk ⟨RdK.of_own (K := kHlp) HQ5.out.1 HQ5.out.2.1 HQ5.out.2.2, by omega, own_cap HQ5.out.1, RdK.of_own (K := kHlp) HP5.out.1 HP5.out.2.1 HP5.out.2.2, by omega, own_cap HP5.out.1, HW5.out⟩

end Go.Proofs.YtcclfmapbgdpdaaGreatDoor
