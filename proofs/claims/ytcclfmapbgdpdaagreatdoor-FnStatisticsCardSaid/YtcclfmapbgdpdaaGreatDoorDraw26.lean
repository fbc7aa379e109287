/- The draws of a series. -/
import Derived.Test.YtcclfmapbgdpdaaGreatDoorSrc
import Derived.Test.YtcclfmapbgdpdaaGreatDoorAppI
namespace Go.Proofs.YtcclfmapbgdpdaaGreatDoor
open Go.RowKit
set_option linter.unusedVariables false

theorem own_wr {w w' : World} {base lo hi : Nat} {e : TypeId} {size : Nat} {v : Value} {n : Nat} {xs : List Value} (h : w.ownsRow base e size v n xs) (hw : Wr lo hi w w') (hd : hi ≤ base) : w'.ownsRow base e size v n xs := by
  refine ⟨h.1, ?_⟩
  rcases h.2 with hn | ⟨g, cap, cur, rfl, hbg, hgg, rest⟩
  · exact .inl hn
  · exact .inr ⟨g, cap, cur, rfl, hbg, by rw [hw.block g (Array.getElem?_eq_some_iff.1 hgg).1 (by omega)]; exact hgg, rest⟩
theorem Wr.then {lo hi B : Nat} {w w1 w2 : World} (h : Wr lo hi w w1) (hb : Below B w1 w2) (hB : w.heap.size ≤ B) : Wr lo hi w w2 :=
  ⟨hb.os.trans h.os, hb.tape.trans h.tape, hb.output.trans h.output, Nat.le_trans h.size hb.size, fun k hk hr => (hb.block k (by omega)).trans (h.block k hk hr)⟩
set_option maxHeartbeats 2000000 in
theorem l26DrawOk_calls (g n c a : Nat) (A : Option Addr) (w : World) (h : Src w g A n c a) (ha : a ≤ 274877906944) :
    Calls Tryz.prog 149 #[.pointer (some ⟨g, 0, none⟩)] w fun e w' => ∃ (A' : Option Addr) (m c' : Nat) (xs : List Int) (a' : Nat), e = .returned (.slice A' m c') ∧ w'.ownsRow w.heap.size 2 1 (.slice A' m c') m (cI xs) ∧ 1 ≤ m ∧ m ≤ 14 ∧ (∀ x ∈ xs, I64 x) ∧ a' ≤ a + 40 ∧ Src w' g A n c a' ∧ Wr g (g + 1) w w' := by
  have HS := hide h
  have hg := h.lt
  have hin0 := World.ownsRow_lit (base := w.heap.size) (e := 2) (size := 1) w #[] 0 (Nat.le_refl _) (by simp) rfl
  obtain ⟨w0, hw0⟩ : ∃ w0, w0 = w.alloc (.cells #[] 2) := ⟨_, rfl⟩
  have hb0 : Below w.heap.size w w0 := by rw [hw0]; exact (Below.refl _ _).alloc (Nat.le_refl _) _
  have hz0 := hb0.size
  have hin1 : w0.ownsRow w.heap.size 2 1 (.slice (some ⟨w.heap.size, 0, none⟩) 0 0) 0 (cI []) := by rw [hw0]; simpa [cI] using hin0
  have P := hide (pick_calls g n c a A 14 w0 (h.below hb0 hg) (by omega) (by unfold I64; omega))
  have HIN := hide hin1
  have HB0 := hide hb0
  clear h hin0 hin1 hb0
  go_enter Tryz.func149, Tryz.ntmps149
  go_wp2_with fail
  rw [← hw0]
  clear hw0
  refine P.out.mono ?_
  rintro e w1 ⟨x0, a1, rfl, hx0, ha1, s1, r1⟩
  have hx14 : x0 < 14 := by omega
  have HS1 := hide (And.intro ha1 s1)
  have HW1 : Hid (Wr g (g + 1) w w1) := (Wr.of_below HB0.out).trans r1
  have HO1 : Hid (w1.ownsRow w.heap.size 2 1 (.slice (some ⟨w.heap.size, 0, none⟩) 0 0) 0 (cI [])) := own_wr HIN.out r1 hg
  clear hx0 ha1 s1 r1 P HIN HB0
  go_wp2_with fail
  go_loopw [3, 4] (fun v i wr => ∃ (q r a' : Nat) (xs : List Int), q + r = x0 + 1 ∧ i = .int .i64 ((r : Int) - 1) ∧ xs.length = q ∧ wr.ownsRow w.heap.size 2 1 v q (cI xs) ∧ Hid ((∀ x ∈ xs, I64 x) ∧ a' ≤ a + 2 + 2 * q ∧ Src wr g A n c a' ∧ Wr g (g + 1) w wr)) (fun _ i _ => (intOf i + 1).toNat)
  case atStart => exact ⟨0, x0 + 1, a1, [], by omega, by congr 1; omega, rfl, HO1.out, by simp, HS1.out.1, HS1.out.2, HW1.out⟩
  case round =>
    clear HS1 HW1 HO1
    obtain ⟨q, r, a', xs, hqr, rfl, hxl, hown, HR⟩ := hrel
    have HO := hide hown
    have HL := hide hxl
    clear hown hxl
    by_cases hr : 0 < r
    · have P := hide (pick_calls g n c a' A 60 wr HR.out.2.2.1 (by have := HR.out; omega) (by unfold I64; omega))
      obtain ⟨r', rfl⟩ : ∃ r', r = r' + 1 := ⟨r - 1, by omega⟩
      have er : ((r' + 1 : Nat) : Int) - 1 = (r' : Int) := by omega
      rw [er]
      clear er
      go_wp2_with fail
      refine P.out.mono ?_
      rintro e w2 ⟨x, a2, rfl, hx, ha2, s2, r2⟩
      have hx60 : x < 60 := by omega
      have hw2 := HR.out.2.2.2.size
      have hz2 := r2.size
      have hO2 := own_wr HO.out r2 hg
      have HS2 := hide (And.intro ha2 (And.intro s2 r2))
      clear hx ha2 s2 r2 P
      go_wp2_with (at_builtin; refine appI rfl _ _ rfl w.heap.size u3 q xs (10 * (x : Int)) rfl hO2 rfl (by omega) (by omega) ?_; intro v4 w4 hown4 hb4 hz4)
      go_roundw
      case rel =>
        refine ⟨q + 1, r', a2, xs ++ [10 * (x : Int)], by omega, by go_num, by rw [List.length_append, HL.out]; rfl, hown4, ?_⟩
        refine ⟨fun y hy => ?_, by have := HR.out; have := HS2.out; omega, HS2.out.2.1.below hb4 hg, (HR.out.2.2.2.trans HS2.out.2.2).then hb4 (Nat.le_refl _)⟩
        rcases List.mem_append.1 hy with hy | hy
        · exact HR.out.1 y hy
        · have : y = 10 * (x : Int) := by simpa using hy
          unfold I64; omega
      case measure => first | (simp [intOf]; done) | (simp [intOf]; omega)
    · have hr0 : r = 0 := by omega
      subst hr0
      obtain ⟨A9, c9, hv⟩ := own_slice HO.out
      have HV9 := hide hv
      clear hv
      go_wp2
      go_ret
      refine ⟨A9, q, c9, xs, a', congrArg Ending.returned HV9.out, by rw [← HV9.out]; exact HO.out, by omega, by omega, HR.out.1, by have := HR.out; omega, HR.out.2.2.1, HR.out.2.2.2⟩

/-- What drawing a series leaves: a row of the call's own, of 61 numbers at most. -/
def SerPost (g : Nat) (A : Option Addr) (n c a : Nat) (w : World) (e : Ending) (w' : World) : Prop :=
  ∃ (A' : Option Addr) (m c' : Nat) (xs : List Int) (a' : Nat), e = .returned (.slice A' m c') ∧ FrI w' w.heap.size w'.heap.size 2 A' m xs ∧ m ≤ 61 ∧ m ≤ c' ∧ a' ≤ a + 60 ∧ Src w' g A n c a' ∧ Wr g (g + 1) w w'

set_option maxHeartbeats 4000000 in
set_option maxRecDepth 100000 in
theorem l26Draw_calls (g n c a : Nat) (A : Option Addr) (w : World) (h : Src w g A n c a) (ha : a ≤ 137438953472) :
    Calls Tryz.prog 69 #[.pointer (some ⟨g, 0, none⟩)] w (SerPost g A n c a w) := by
  have D := hide (l26DrawOk_calls g n c a A w h (by omega))
  have hg := h.lt
  clear h
  go_enter Tryz.func69, Tryz.ntmps69
  go_wp2_with fail
  refine D.out.mono ?_
  rintro e w1 ⟨A1, m, c1, xs, a1, rfl, hown, hm1, hm14, hxs, ha1, s1, r1⟩
  have P := hide (pick_calls g n c a1 A 20 w1 s1 (by omega) (by unfold I64; omega))
  have hz1 := r1.size
  have HR1 := hide r1
  have HO1 := hide hown
  have HX := hide hxs
  have hmc := own_cap hown
  clear s1 r1 D hown hxs
  go_wp2_with fail
  refine P.out.mono ?_
  rintro e w2 ⟨x, a2, rfl, hx, ha2, s2, r2⟩
  have hz2 := r2.size
  have HR2 := hide (HR1.out.trans r2)
  have HO2 := hide (own_wr HO1.out r2 hg)
  have HS2 := hide s2
  clear hx s2 r2 P HO1 HR1
  by_cases h0 : x = 0
  · subst h0
    obtain ⟨w3, hw3⟩ : ∃ w3, w3 = w2.alloc (.cells #[.int .i64 (-1), .int .i64 0, .int .i64 1000000, .int .i64 1000001] 2) := ⟨_, rfl⟩
    have hb3 : Below w2.heap.size w2 w3 := by rw [hw3]; exact (Below.refl _ _).alloc (Nat.le_refl _) _
    have hl := World.ownsRow_lit (base := w2.heap.size) (e := 2) (size := 1) w2 #[.int .i64 (-1), .int .i64 0, .int .i64 1000000, .int .i64 1000001] 4 (Nat.le_refl _) (by unfold maxLen; omega) rfl
    rw [← hw3] at hl
    have hf : FrI w3 w2.heap.size w3.heap.size 2 (some ⟨w2.heap.size, 0, none⟩) 4 [-1, 0, 1000000, 1000001] := FrI.of_own hl (by intro y hy; simp at hy; unfold I64; omega)
    have hz3 := hb3.size
    have M := hide (among_calls g n c a2 w2.heap.size w3.heap.size 4 4 A (some ⟨w2.heap.size, 0, none⟩) [-1, 0, 1000000, 1000001] w3 (HS2.out.below hb3 (by omega)) (by omega) hf (by omega) (by omega) (by omega))
    have HO3 := hide (own_below HO2.out hb3 (Nat.le_refl _))
    have HB3 := hide hb3
    clear hl hf hb3
    go_wp2_with fail
    rw [← hw3]
    clear hw3
    refine M.out.mono ?_
    rintro e w4 ⟨y, a4, rfl, hy, hy64, ha4, s4, r4⟩
    have hz4 := r4.size
    have HO4 := hide (own_wr HO3.out r4 hg)
    have HR4 := hide ((HR2.out.then HB3.out (by omega)).trans r4)
    have HS4 := hide s4
    clear s4 r4 M HO3 HB3
    obtain ⟨b, off, v, hA, hb1, hb2, hc, hfz, HK⟩ := (Fr.of_own HO4.out).store (j := 0) (by omega)
    subst hA
    rw [Nat.add_zero] at hc hfz HK
    have i1 : (0 : Int) < (m : Int) := by omega
    have i2 : 0 < m := by omega
    have hB5 : Below w.heap.size w4 (w4.setCell ⟨b, off, none⟩ (.int .i64 y)) := (Below.refl _ _).setCell (p := ⟨b, off, none⟩) hb1 _
    have HB5 := hide hB5
    clear hb1 hb2 hB5
    go_wp2
    go_ret
    refine ⟨_, m, c1, xs.set 0 y, a4, rfl, ⟨?_, ?_⟩, by omega, hmc, by omega, HS4.out.below HB5.out hg, HR4.out.then HB5.out (Nat.le_refl _)⟩
    · have := HK.out (.int .i64 y)
      have e : (cI xs).set 0 (.int .i64 y) = cI (xs.set 0 y) := by unfold cI; rw [List.map_set]
      rw [e] at this
      exact this.mono (Nat.le_refl _) HB5.out.size
    · intro z hz
      rcases List.mem_or_eq_of_mem_set hz with h | h
      · exact HX.out z h
      · subst h; exact hy64
  have h0' : ¬ (x : Int) = 0 := by omega
  by_cases h1 : x = 1
  · subst h1
    obtain ⟨w3, hw3⟩ : ∃ w3, w3 = w2.alloc (.cells #[.int .i64 0, .int .i64 60, .int .i64 61] 2) := ⟨_, rfl⟩
    have hb3 : Below w2.heap.size w2 w3 := by rw [hw3]; exact (Below.refl _ _).alloc (Nat.le_refl _) _
    have hl := World.ownsRow_lit (base := w2.heap.size) (e := 2) (size := 1) w2 #[.int .i64 0, .int .i64 60, .int .i64 61] 3 (Nat.le_refl _) (by unfold maxLen; omega) rfl
    rw [← hw3] at hl
    have hf : FrI w3 w2.heap.size w3.heap.size 2 (some ⟨w2.heap.size, 0, none⟩) 3 [0, 60, 61] := FrI.of_own hl (by intro y hy; simp at hy; unfold I64; omega)
    have hz3 := hb3.size
    have M := hide (among_calls g n c a2 w2.heap.size w3.heap.size 3 3 A (some ⟨w2.heap.size, 0, none⟩) [0, 60, 61] w3 (HS2.out.below hb3 (by omega)) (by omega) hf (by omega) (by omega) (by omega))
    have HB3 := hide hb3
    clear hl hf hb3 h0 h0'
    go_wp2_with fail
    rw [← hw3]
    clear hw3
    refine M.out.mono ?_
    rintro e w4 ⟨y, a4, rfl, hy, hy64, ha4, s4, r4⟩
    have hz4 := r4.size
    have HR4 := hide ((HR2.out.then HB3.out (by omega)).trans r4)
    have HS4 := hide s4
    obtain ⟨q, rfl, hq⟩ : ∃ q : Nat, y = (q : Int) ∧ q ≤ 61 := ⟨y.toNat, by simp at hy; omega, by simp at hy; omega⟩
    clear s4 r4 M HB3 hy
    obtain ⟨i0, hi, hi0, hi1, hi2⟩ := info_parts Tryz.info2
    go_wp2_with (refine wpList_make_full _ rfl _ _ 24 rfl w4.heap.size 2 i0 (.int .i64 0) 1 Tryz.underlying24 hi hi0 hi1 .i64 .i64 _ _ q rfl rfl rfl rfl (by rw [hi2]; omega) (by unfold maxLen; omega) (Nat.le_refl _) ?_; intro w5 hown5 hgr5)
    have hb5 : Below w4.heap.size w4 w5 := (Below.refl _ _).grown hgr5 (Nat.le_refl _) (fun k hk => by cases hk)
    have ho5 : w5.ownsRow w4.heap.size 2 1 (.slice (some ⟨w4.heap.size, 0, none⟩) q q) q (cI (List.replicate q 0)) := by simpa [cI, toList_madeCells_one, Value.cells] using hown5
    go_ret
    refine ⟨_, q, q, List.replicate q 0, a4, rfl, ?_, hq, Nat.le_refl _, by omega, HS4.out.below hb5 (by omega), HR4.out.then hb5 (by omega)⟩
    exact ⟨(Fr.of_own ho5).mono (by omega) (Nat.le_refl _), fun y hy => by have := List.eq_of_mem_replicate hy; unfold I64; omega⟩
  · have h1' : ¬ (x : Int) = 1 := by omega
    go_wp2
    go_ret
    exact ⟨A1, m, c1, xs, a2, rfl, ⟨(Fr.of_own HO2.out), HX.out⟩, by omega, hmc, by omega, HS2.out, HR2.out⟩

/-- What drawing a series and a number leaves. -/
def SerNPost (w : World) (e : Ending) (w' : World) : Prop :=
  ∃ (A' : Option Addr) (m c' : Nat) (xs : List Int) (y : Int), e = .returned (.tuple #[.slice A' m c', .int .i64 y]) ∧ FrI w' w.heap.size w'.heap.size 2 A' m xs ∧ m ≤ 61 ∧ m ≤ c' ∧ I64 y ∧ Below w.heap.size w w'

theorem below_src {g : Nat} {w w1 w' : World} (hg : g = w.heap.size) (hb : Below w.heap.size w w1) (hr : Wr g (g + 1) w1 w') : Below w.heap.size w w' :=
  hb.trans ⟨hr.os, hr.tape, hr.output, hr.size, fun k hk => hr.block k (by have := hb.size; omega) (by omega)⟩



theorem drawMovingMeans_calls (n c : Nat) (A : Option Addr) (bs : List Int) (w : World) (h : RdY w A n bs) (hn : n ≤ 1048576) :
    Calls Tryz.prog 8 #[.slice A n c] w (SerNPost w) := by
  have F := hide (l00From_calls n c A bs w h hn)
  clear h
  go_enter Tryz.func8, Tryz.ntmps8
  go_wp2_with fail
  refine F.out.mono ?_
  rintro e w1 ⟨rfl, s1, hb1, hz1⟩
  have D := hide (l26Draw_calls w.heap.size n c 0 A w1 s1 (by omega))
  have HB1 := hide hb1
  clear s1 hb1
  go_wp2_with fail
  refine D.out.mono ?_
  rintro e w2 ⟨A', m, c', xs, a', rfl, f2, hm, hmc, ha', s2, r2⟩
  have P := hide (pick_calls w.heap.size n c a' A ((m : Int) + 2) w2 s2 (by omega) (by unfold I64; omega))
  have HH := hide (And.intro f2 (And.intro hm (And.intro hmc r2)))
  have hz2 := r2.size
  clear f2 hmc s2 r2 ha'
  go_wp2_with fail
  refine P.out.mono ?_
  rintro e w3 ⟨x, a3, rfl, hx, ha3, s3, r3⟩
  have hf := HH.out.1.wr r3 (.inr (by omega))
  have HH3 := hide (And.intro (hf.1.mono (show w.heap.size ≤ w1.heap.size by omega) (show w2.heap.size ≤ w3.heap.size from r3.size)) (And.intro hf.2 (below_src rfl HB1.out (HH.out.2.2.2.trans r3))))
  have hx2 : x < 70 := by omega
  clear hf hx s3 r3 P ha3
  go_wp2
  go_ret2
  exact ⟨A', m, c', xs, (x : Int), ret_two rfl rfl, ⟨HH3.out.1, HH3.out.2.1⟩, HH.out.2.1, HH.out.2.2.1, by unfold I64; omega, HH3.out.2.2⟩


/-- What drawing a series and missing places leaves. -/
def SerMPost (w : World) (e : Ending) (w' : World) : Prop :=
  ∃ (A' : Option Addr) (m c' : Nat) (xs : List Int) (B' : Option Addr) (k d' : Nat) (ms : List Int), e = .returned (.tuple #[.slice A' m c', .slice B' k d']) ∧ RdI w' A' m xs ∧ m ≤ 61 ∧ RdI w' B' k ms ∧ k ≤ 62 ∧ Below w.heap.size w w'

set_option maxHeartbeats 4000000 in
set_option maxRecDepth 100000 in
theorem drawFillGaps_calls (n c : Nat) (A : Option Addr) (bs : List Int) (w : World) (h : RdY w A n bs) (hn : n ≤ 1048576) :
    Calls Tryz.prog 16 #[.slice A n c] w (SerMPost w) := by
  have F := hide (l00From_calls n c A bs w h hn)
  clear h
  go_enter Tryz.func16, Tryz.ntmps16
  go_wp2_with fail
  refine F.out.mono ?_
  rintro e w1 ⟨rfl, s1, hb1, hz1⟩
  have D := hide (l26Draw_calls w.heap.size n c 0 A w1 s1 (by omega))
  have HB1 := hide hb1
  clear s1 hb1 F
  go_wp2_with fail
  refine D.out.mono ?_
  rintro e w2 ⟨A', m, c', xs, a', rfl, f2, hm, hmc, ha', s2, r2⟩
  have hz2 := r2.size
  obtain ⟨w3, hw3⟩ : ∃ w3, w3 = w2.alloc (.cells #[] 2) := ⟨_, rfl⟩
  have hb3 : Below w2.heap.size w2 w3 := by rw [hw3]; exact (Below.refl _ _).alloc (Nat.le_refl _) _
  have hin0 := World.ownsRow_lit (base := w2.heap.size) (e := 2) (size := 1) w2 #[] 0 (Nat.le_refl _) (by simp) rfl
  have hin1 : w3.ownsRow w2.heap.size 2 1 (.slice (some ⟨w2.heap.size, 0, none⟩) 0 0) 0 (cI []) := by rw [hw3]; simpa [cI] using hin0
  have hz3 := hb3.size
  have HF := hide f2
  have HW2 := hide r2
  have HS3 := hide (And.intro (s2.below hb3 (by omega)) (Wr.of_below (lo := w.heap.size) (hi := w.heap.size + 1) hb3))
  have HO3 := hide hin1
  have hg2 : w.heap.size + 1 ≤ w2.heap.size := by omega
  clear f2 s2 r2 hb3 hin0 hin1 D
  go_wp2_with fail
  rw [← hw3]
  clear hw3
  go_loopw [6, 7] (fun v i wr => ∃ (k q a2 : Nat) (ms : List Int), k ≤ m ∧ i = .int .i64 k ∧ q ≤ k ∧ wr.ownsRow w2.heap.size 2 1 v q (cI ms) ∧ Hid ((∀ x ∈ ms, I64 x) ∧ a2 ≤ 100 + 2 * k ∧ Src wr w.heap.size A n c a2 ∧ Wr w.heap.size (w.heap.size + 1) w2 wr)) (fun _ i _ => m - (intOf i).toNat)
  case atStart => exact ⟨0, 0, a', [], Nat.zero_le _, rfl, Nat.le_refl _, HO3.out, by simp, by omega, HS3.out.1, HS3.out.2⟩
  case round =>
    clear HS3 HO3
    obtain ⟨k, q, a2, ms, hk, rfl, hqk, hown, HR⟩ := hrel
    have HO := hide hown
    clear hown
    by_cases hlt : k < m
    · have P := hide (one_calls w.heap.size n c a2 A 3 wr HR.out.2.2.1 (by have := HR.out; omega) (by unfold I64; omega))
      go_wp2_with fail
      refine P.out.mono ?_
      rintro e w4 ⟨b, a4, rfl, ha4, s4, r4⟩
      have hw4 := HR.out.2.2.2.size
      have hz4 := r4.size
      have hO4 := own_wr HO.out r4 (by omega)
      have HS4 := hide (And.intro ha4 (And.intro s4 r4))
      clear s4 r4 P ha4
      cases b
      · go_wp2_with fail
        go_roundw
        case rel => exact ⟨k + 1, q, a4, ms, by omega, by go_num, by omega, hO4, HR.out.1, by have := HR.out; have := HS4.out; omega, HS4.out.2.1, HR.out.2.2.2.trans HS4.out.2.2⟩
        case measure => simp [intOf]; omega
      · go_wp2_with (at_builtin; refine appI rfl _ _ rfl w2.heap.size u6 q ms (k : Int) rfl hO4 rfl (by omega) (by omega) ?_; intro v5 w5 hown5 hb5 hz5)
        go_roundw
        case rel =>
          refine ⟨k + 1, q + 1, a4, ms ++ [(k : Int)], by omega, by go_num, by omega, hown5, ?_⟩
          refine ⟨fun y hy => ?_, by have := HR.out; have := HS4.out; omega, HS4.out.2.1.below hb5 (by omega), (HR.out.2.2.2.trans HS4.out.2.2).then hb5 (Nat.le_refl _)⟩
          rcases List.mem_append.1 hy with hy | hy
          · exact HR.out.1 y hy
          · have : y = (k : Int) := by simpa using hy
            unfold I64; omega
        case measure => simp [intOf]; omega
    · have hkm : k = m := by omega
      subst hkm
      have P := hide (one_calls w.heap.size n c a2 A 12 wr HR.out.2.2.1 (by have := HR.out; omega) (by unfold I64; omega))
      go_wp2_with fail
      refine P.out.mono ?_
      rintro e w4 ⟨b, a4, rfl, ha4, s4, r4⟩
      have hw4 := HR.out.2.2.2.size
      have hz4 := r4.size
      have HO4 := hide (own_wr HO.out r4 (by omega))
      have ha5 : a4 ≤ 1000 := by have := HR.out; omega
      have HW4 := hide (HW2.out.trans (HR.out.2.2.2.trans r4))
      have HF4 := hide (HF.out.wr (HR.out.2.2.2.trans r4) (.inr (by omega)))
      have HS4 := hide s4
      have HX := hide HR.out.1
      have HR0 := hide (show w1.heap.size ≤ w4.heap.size by omega)
      clear s4 r4 P ha4 HO HR
      cases b
      · obtain ⟨A9, c9, hv⟩ := own_slice HO4.out
        subst hv
        go_wp2
        go_ret2
        exact ⟨A', k, c', xs, A9, q, c9, ms, ret_two rfl rfl, HF4.out.rd, hm, RdI.of_own HO4.out HX.out, by omega, below_src rfl HB1.out HW4.out⟩
      · obtain ⟨w5, hw5⟩ : ∃ w5, w5 = w4.alloc (.cells #[.int .i64 (-1), .int .i64 0, .int .i64 (k : Int)] 2) := ⟨_, rfl⟩
        have hb5 : Below w4.heap.size w4 w5 := by rw [hw5]; exact (Below.refl _ _).alloc (Nat.le_refl _) _
        have hl := World.ownsRow_lit (base := w4.heap.size) (e := 2) (size := 1) w4 #[.int .i64 (-1), .int .i64 0, .int .i64 (k : Int)] 3 (Nat.le_refl _) (by unfold maxLen; omega) rfl
        rw [← hw5] at hl
        have hf : FrI w5 w4.heap.size w5.heap.size 2 (some ⟨w4.heap.size, 0, none⟩) 3 [-1, 0, (k : Int)] := FrI.of_own hl (by intro y hy; simp at hy; unfold I64; omega)
        have hz5 := hb5.size
        have M := hide (among_calls w.heap.size n c a4 w4.heap.size w5.heap.size 3 3 A (some ⟨w4.heap.size, 0, none⟩) [-1, 0, (k : Int)] w5 (HS4.out.below hb5 (by omega)) (by omega) hf (by omega) (by omega) (by omega))
        have HO5 := hide (own_below HO4.out hb5 (Nat.le_refl _))
        have HB5 := hide hb5
        clear hl hf hb5 HO4
        go_wp2_with fail
        rw [← hw5]
        clear hw5
        refine M.out.mono ?_
        rintro e w6 ⟨y, a6, rfl, hy, hy64, ha6, s6, r6⟩
        have hz6 := r6.size
        have hO6 := own_wr HO5.out r6 (by omega)
        have HW6 := hide ((HW4.out.then HB5.out (by have := HR0.out; omega)).trans r6)
        have HF6 := hide ((HF4.out.below HB5.out (by omega)).wr r6 (.inr (by omega)))
        clear s6 r6 M HO5 HB5 HW4 HF4 hy
        go_wp2_with (at_builtin; refine appI rfl _ _ rfl w2.heap.size u6 q ms y rfl hO6 rfl (by omega) (by omega) ?_; intro v7 w7 hown7 hb7 hz7)
        obtain ⟨A9, c9, hv⟩ := own_slice hown7
        subst hv
        go_ret2
        refine ⟨A', k, c', xs, A9, q + 1, c9, ms ++ [y], ret_two rfl rfl, (HF6.out.below hb7 (Nat.le_refl _)).rd, hm, RdI.of_own hown7 (fun z hz => ?_), by omega, below_src rfl HB1.out (HW6.out.then hb7 (by omega))⟩
        rcases List.mem_append.1 hz with h | h
        · exact HX.out z h
        · have : z = y := by simpa using h
          subst this; exact hy64

end Go.Proofs.YtcclfmapbgdpdaaGreatDoor
