/- The draw of a log. -/
import Derived.Test.YtcclfmapbgdpdaaGreatDoorMg
import Derived.Test.YtcclfmapbgdpdaaGreatDoorLogL
namespace Go.Proofs.YtcclfmapbgdpdaaGreatDoor
open Go.RowKit
set_option linter.unusedVariables false

/-- The texts that are drawn. -/
def logTexts : List ByteArray := [⟨#[114, 105, 100, 101, 32, 49, 50]⟩, ⟨#[115, 116, 111, 112, 32, 119, 105, 110, 100]⟩, ⟨#[111, 112, 101, 110]⟩, ⟨#[114, 111, 112, 101, 32, 116, 101, 115, 116, 32, 112, 97, 115, 115, 101, 100]⟩, ⟨#[102, 97, 117, 108, 116, 32, 100, 111, 111, 114, 32, 98]⟩, ⟨#[114, 105, 100, 101]⟩]
theorem logTexts_ok : ∀ t ∈ logTexts, textB t = true ∧ t.size ≤ 40 := by
  intro t ht
  simp only [logTexts, List.mem_cons, List.not_mem_nil, or_false] at ht
  rcases ht with rfl | rfl | rfl | rfl | rfl | rfl <;> exact ⟨by decide +kernel, by decide +kernel⟩

/-- Lines as drawn: those ahead of a day and a minute. -/
def LgOk (xs : List LineZ) (d m : Int) : Prop :=
  (∀ j, j < xs.length → stepL xs j = true) ∧ (∀ x ∈ xs, 0 ≤ x.day ∧ x.day ≤ d ∧ kLine.fine x) ∧ (∀ x, xs[xs.length - 1]? = some x → x.day < d ∨ (x.day = d ∧ x.minute ≤ m))
theorem LgOk.nil (d m : Int) : LgOk [] d m := ⟨fun j hj => absurd hj (by simp), by simp, by simp⟩
theorem LgOk.snoc {xs : List LineZ} {d m d' m' : Int} {t : ByteArray} (h : LgOk xs d m) (hd : 0 ≤ d ∧ d ≤ 100000) (hm : 0 ≤ m ∧ m ≤ 1439) (ht : textB t = true) (hd' : d < d' ∨ (d = d' ∧ m ≤ m')) : LgOk (xs ++ [⟨d, m, t, 0⟩]) d' m' := by
  obtain ⟨h1, h2, h3⟩ := h
  have hlb : lineB ⟨d, m, t, 0⟩ = true := by
    unfold lineB
    simp only
    rw [show dayB d = true from withinB_iff.2 hd, show minB m = true from withinB_iff.2 hm, ht, show crcB 0 = true from withinB_iff.2 ⟨by omega, by omega⟩]
    rfl
  have ht40 := text_40 ht
  refine ⟨fun j hj => ?_, fun x hx => ?_, fun x hx => ?_⟩
  · rw [List.length_append] at hj
    simp only [List.length_cons, List.length_nil] at hj
    by_cases hjl : j < xs.length
    · rw [step_app hjl]; exact h1 j hjl
    · obtain rfl : j = xs.length := by omega
      have hat : (xs ++ [(⟨d, m, t, 0⟩ : LineZ)])[xs.length]? = some ⟨d, m, t, 0⟩ := by rw [List.getElem?_append_right (Nat.le_refl _), Nat.sub_self]; rfl
      rw [stepL_at hat, hlb, Bool.true_and]
      cases hn : xs.length with
      | zero => rfl
      | succ k =>
        rw [hn] at hat h3
        have hk := List.getElem?_eq_getElem (show k < xs.length by omega)
        have hp : (xs ++ [(⟨d, m, t, 0⟩ : LineZ)])[k]? = some xs[k] := by rw [List.getElem?_append_left (by omega), hk]
        have h4 := h3 _ hk
        rw [upL_at hp hat]
        unfold laterB
        simp only
        rcases h4 with h4 | h4
        · rw [decide_eq_false (by omega), decide_eq_false (by omega)]; rfl
        · rw [decide_eq_false (by omega), decide_eq_false (show ¬ m < xs[k].minute by omega)]; simp
  · rcases List.mem_append.1 hx with hx | hx
    · have := h2 x hx
      exact ⟨this.1, by omega, this.2.2⟩
    · obtain rfl : x = ⟨d, m, t, 0⟩ := by simpa using hx
      exact ⟨hd.1, by simp only; omega, ⟨by simp only; omega, by simp only; omega⟩, ⟨by simp only; omega, by simp only; omega⟩, by simp only; omega, ⟨by simp only; omega, by simp only; omega⟩⟩
  · rw [List.length_append, show xs.length + [(⟨d, m, t, 0⟩ : LineZ)].length - 1 = xs.length by simp, List.getElem?_append_right (Nat.le_refl _), Nat.sub_self] at hx
    obtain rfl : (⟨d, m, t, 0⟩ : LineZ) = x := by simpa using hx
    exact hd'
theorem LgOk.short {xs : List LineZ} {d m : Int} (h : LgOk xs d m) : ShortL xs := by
  intro x hx
  obtain ⟨j, hj⟩ := List.mem_iff_getElem?.1 hx
  have := h.1 j (List.getElem?_eq_some_iff.1 hj).1
  rw [stepL_at hj, Bool.and_eq_true] at this
  have := line_text this.1
  omega
theorem seals_idem (xs : List LineZ) : ∀ n, sealsZ n (sealsZ n xs) = sealsZ n xs := by
  induction xs with
  | nil => intro n; rfl
  | cons x r ih => intro n; rw [sealsZ, sealsZ, ih]
/-- The lines with their seals are a log. -/
theorem LgOk.log {xs : List LineZ} {d m : Int} (h : LgOk xs d m) (hl : xs.length ≤ 40) : validL (madeZ xs) = true ∧ (madeZ xs).length = xs.length ∧ ∀ x ∈ madeZ xs, x.day ≤ d := by
  obtain ⟨h1, h2, h3⟩ := h
  have hlen := madeZ_len xs
  have key : ∀ (j : Nat) (a : LineZ), xs[j]? = some a → ∃ s : Nat, s < 65536 ∧ (madeZ xs)[j]? = some ⟨a.day, a.minute, a.text, s⟩ := fun j a ha => ⟨sealF 65535 (xs.take (j + 1)), sealF_lt _ (by omega), made_at ha⟩
  refine ⟨valid_two.2 ⟨?_, by unfold madeZ; exact seals_idem _ _⟩, hlen, fun x hx => ?_⟩
  · unfold isLogB
    rw [Bool.and_eq_true, decide_eq_true_eq, List.all_eq_true, hlen]
    refine ⟨fun j hj => ?_, hl⟩
    rw [List.mem_range] at hj
    have ha := List.getElem?_eq_getElem hj
    obtain ⟨s, hs, hb⟩ := key j _ ha
    have hst := h1 j hj
    rw [stepL_at ha, Bool.and_eq_true] at hst
    rw [stepL_at hb, Bool.and_eq_true]
    constructor
    · have hla := hst.1
      unfold lineB at hla ⊢
      simp only [Bool.and_eq_true] at hla ⊢
      exact ⟨hla.1, withinB_iff.2 ⟨by omega, by omega⟩⟩
    · cases j with
      | zero => rfl
      | succ i =>
        have ha' := List.getElem?_eq_getElem (show i < xs.length by omega)
        obtain ⟨s', hs', hb'⟩ := key i _ ha'
        have hu := hst.2
        rw [upL_at ha' ha] at hu
        rw [upL_at hb' hb]
        exact hu
  · obtain ⟨j, hj⟩ := List.mem_iff_getElem?.1 hx
    have hjl : j < xs.length := by rw [← hlen]; exact (List.getElem?_eq_some_iff.1 hj).1
    obtain ⟨s, _, hb⟩ := key j _ (List.getElem?_eq_getElem hjl)
    rw [hb, Option.some.injEq] at hj
    subst hj
    exact (h2 _ (List.getElem_mem hjl)).2.1

set_option maxHeartbeats 1000000 in
theorem l25DrawText_calls (g n c a : Nat) (A : Option Addr) (w : World) (h : Src w g A n c a) (ha : a ≤ 549755813888) :
    Calls Tryz.prog 166 #[.pointer (some ⟨g, 0, none⟩)] w fun e w' => ∃ (t : ByteArray) (a' : Nat), e = .returned (.string t) ∧ textB t = true ∧ t.size ≤ 40 ∧ a' ≤ a + 2 ∧ Src w' g A n c a' ∧ Wr g (g + 1) w w' := by
  have hg := h.lt
  obtain ⟨w1, hw1⟩ : ∃ w1, w1 = w.alloc (.cells (logTexts.map fun t => Value.string t).toArray 9) := ⟨_, rfl⟩
  have hb1 : Below w.heap.size w w1 := by rw [hw1]; exact (Below.refl _ _).alloc (Nat.le_refl _) _
  have hz1 : w1.heap.size = w.heap.size + 1 := by rw [hw1]; simp
  have hc : ∀ j s, logTexts[j]? = some s → w1.cell? ⟨w.heap.size, j, none⟩ = some (.string s) := by
    intro j s hs
    rw [hw1, cell_of_row _ w.heap.size j _ _ (0, 0) (heap_alloc_new w _)]
    simp only [List.getElem?_toArray, List.getElem?_map, hs, Option.map_some]
  have T := hide (text_calls g n c a w.heap.size 6 A logTexts w1 (h.below hb1 hg) ha hc (by omega) hg (by decide) (by decide))
  rw [show logTexts.length = 6 from rfl] at T
  have HB := hide (Wr.of_below (lo := g) (hi := g + 1) hb1)
  clear h hc hb1
  go_enter Tryz.func166, Tryz.ntmps166
  go_wp2_with fail
  rw [show w.alloc (.cells #[.string ⟨#[114, 105, 100, 101, 32, 49, 50]⟩, .string ⟨#[115, 116, 111, 112, 32, 119, 105, 110, 100]⟩, .string ⟨#[111, 112, 101, 110]⟩, .string ⟨#[114, 111, 112, 101, 32, 116, 101, 115, 116, 32, 112, 97, 115, 115, 101, 100]⟩, .string ⟨#[102, 97, 117, 108, 116, 32, 100, 111, 111, 114, 32, 98]⟩, .string ⟨#[114, 105, 100, 101]⟩] 9) = w1 from hw1.symm]
  clear hw1
  refine T.out.mono ?_
  rintro e w2 ⟨t, a', rfl, ht, ha', s2, r2⟩
  have HS := hide (And.intro ha' (And.intro s2 (HB.out.trans r2)))
  obtain ⟨k1, k2⟩ := logTexts_ok t ht
  clear ht ha' s2 r2 T
  go_wp2
  go_ret
  exact ⟨t, a', rfl, k1, k2, HS.out.1, HS.out.2.1, HS.out.2.2⟩

/-- What drawing a log leaves. -/
def LogPost (w : World) (w' : World) (A' : Option Addr) (m c' : Nat) (xs : List LineZ) : Prop :=
  RdK kLine w' A' m xs ∧ validL xs = true ∧ xs.length = m ∧ m ≤ 7 ∧ m ≤ c' ∧ ∀ x ∈ xs, x.day ≤ 16

set_option maxHeartbeats 4000000 in
set_option maxRecDepth 100000 in
theorem l25Draw_calls (g n c a : Nat) (A : Option Addr) (w : World) (h : Src w g A n c a) (ha : a ≤ 137438953472) :
    Calls Tryz.prog 88 #[.pointer (some ⟨g, 0, none⟩)] w fun e w' => ∃ (A' : Option Addr) (m c' : Nat) (xs : List LineZ), e = .returned (.slice A' m c') ∧ LogPost w w' A' m c' xs ∧ Wr g (g + 1) w w' := by
  have hg := h.lt
  obtain ⟨w0, hw0⟩ : ∃ w0, w0 = w.alloc (.cells #[] 48) := ⟨_, rfl⟩
  have hb0 : Below w.heap.size w w0 := by rw [hw0]; exact (Below.refl _ _).alloc (Nat.le_refl _) _
  have hin0 := World.ownsRow_lit (base := w.heap.size) (e := 48) (size := 4) w #[] 0 (Nat.le_refl _) (by simp) rfl
  have hin1 : w0.ownsRow w.heap.size 48 4 (.slice (some ⟨w.heap.size, 0, none⟩) 0 0) 0 (cK kLine []) := by rw [hw0]; simpa [cK] using hin0
  have hz0 := hb0.size
  have P1 := hide (pick_calls g n c a A 9 w0 (h.below hb0 hg) (by omega) (by unfold I64; omega))
  have HW0 : Hid (Wr g (g + 1) w w0) := Wr.of_below hb0
  have HO0 := hide hin1
  clear h hin0 hin1 hb0
  go_enter Tryz.func88, Tryz.ntmps88
  go_wp2_with fail
  rw [← hw0]
  clear hw0
  refine P1.out.mono ?_
  rintro e w1 ⟨D0, a1, rfl, hD, ha1, s1, r1⟩
  have hD8 : D0 ≤ 8 := by omega
  have hz1 := r1.size
  have P2 := hide (pick_calls g n c a1 A 600 w1 s1 (by omega) (by unfold I64; omega))
  have HO1 := hide (own_wrv HO0.out r1 hg)
  have HW1 := hide (HW0.out.trans r1)
  clear hD s1 r1 P1 HO0 HW0
  go_wp2_with fail
  refine P2.out.mono ?_
  rintro e w2 ⟨M0, a2, rfl, hM, ha2, s2, r2⟩
  have hM9 : M0 ≤ 599 := by omega
  have hz2 := r2.size
  have P3 := hide (pick_calls g n c a2 A 8 w2 s2 (by omega) (by unfold I64; omega))
  have HO2 := hide (own_wrv HO1.out r2 hg)
  have HW2 := hide (HW1.out.trans r2)
  clear hM s2 r2 P2 HO1 HW1
  go_wp2_with fail
  refine P3.out.mono ?_
  rintro e w3 ⟨K0, a3, rfl, hK, ha3, s3, r3⟩
  have hK7 : K0 ≤ 7 := by omega
  have hz3 := r3.size
  have HO3 := hide (own_wrv HO2.out r3 hg)
  have HW3 := hide (HW2.out.trans r3)
  have HS3 := hide s3
  clear hK s3 r3 P3 HO2 HW2
  go_wp2_with fail
  go_loopw [3, 4, 5, 6] (fun v d mi k wr => ∃ (q r D M a' : Nat) (xs : List LineZ), q + r = K0 ∧ k = .int .i64 r ∧ d = .int .i64 D ∧ mi = .int .i64 M ∧ D ≤ 8 + q ∧ M ≤ 599 + 59 * q ∧ xs.length = q ∧ wr.ownsRow w.heap.size 48 4 v q (cK kLine xs) ∧ Hid (LgOk xs D M ∧ a' ≤ a + 6 + 6 * q ∧ Src wr g A n c a' ∧ Wr g (g + 1) w wr)) (fun _ _ _ k _ => (intOf k).toNat)
  case atStart => exact ⟨0, K0, D0, M0, a3, [], by omega, rfl, rfl, rfl, by omega, by omega, rfl, HO3.out, LgOk.nil _ _, by omega, HS3.out, HW3.out⟩
  case round =>
    clear HO3 HW3 HS3
    obtain ⟨q, r, D, M, a', xs, hqr, rfl, rfl, rfl, hDq, hMq, hxl, hown, HR⟩ := hrel
    have HO := hide hown
    have HL := hide hxl
    clear hown hxl
    by_cases hr : 0 < r
    · obtain ⟨r', rfl⟩ : ∃ r', r = r' + 1 := ⟨r - 1, by omega⟩
      have hza := HR.out.2.2.2.size
      have P := hide (l25DrawText_calls g n c a' A wr HR.out.2.2.1 (by have := HR.out; omega))
      go_wp2_with fail
      refine P.out.mono ?_
      rintro e w4 ⟨t, a4, rfl, ht, ht40, ha4, s4, r4⟩
      have hz4 := r4.size
      have hO4 := own_wrv HO.out r4 hg
      have HS4 := hide (And.intro ha4 (And.intro s4 (HR.out.2.2.2.trans r4)))
      have HT := hide ht
      clear ha4 s4 r4 P ht
      go_wp2_with (at_builtin; refine appLine rfl _ _ rfl w.heap.size u3 q xs ⟨D, M, t, 0⟩ rfl hO4 rfl (by omega) (by omega) ?_; intro v5 w5 hown5 hb5 hz5)
      have s5 := HS4.out.2.1.below hb5 hg
      have hu5 : Hid (Wr g (g + 1) w w5) := HS4.out.2.2.thenB hb5 (Nat.le_refl _)
      have O := hide (one_calls g n c a4 A 3 w5 s5 (by have := HR.out; have := HS4.out; omega) (by unfold I64; omega))
      have HO5 := hide hown5
      clear hown5 hb5 s5 hO4
      go_wp2_with fail
      refine O.out.mono ?_
      rintro e w6 ⟨b, a6, rfl, ha6, s6, r6⟩
      have hz6 := r6.size
      have HO6 := hide (own_wrv HO5.out r6 hg)
      have HW6 := hide (hu5.out.trans r6)
      have P := hide (fun (m : Int) (hm : I64 m) => pick_calls g n c a6 A m w6 s6 (by have := HR.out; have := HS4.out; omega) hm)
      clear s6 r6 O HO5 hu5
      cases b
      · have P2 := hide (P.out 60 (by unfold I64; omega))
        clear P
        go_wp2_with fail
        refine P2.out.mono ?_
        rintro e w7 ⟨x, a7, rfl, hx, ha7, s7, r7⟩
        have hx60 : x ≤ 59 := by omega
        have HO7 := hide (own_wrv HO6.out r7 hg)
        have HF7 := hide (And.intro (show a7 ≤ a + 6 + 6 * (q + 1) by have := HR.out; have := HS4.out; omega) (And.intro s7 (HW6.out.trans r7)))
        clear hx ha7 s7 r7 P2 HO6 HW6 HS4 ha6
        go_wp2_with fail
        go_roundw
        case rel => exact ⟨q + 1, r', D, M + x, a7, xs ++ [⟨D, M, t, 0⟩], by omega, by go_num, rfl, by go_num, by omega, by omega, by rw [List.length_append, HL.out]; rfl, HO7.out, HR.out.1.snoc ⟨by omega, by omega⟩ ⟨by omega, by omega⟩ HT.out (.inr ⟨rfl, by omega⟩), HF7.out.1, HF7.out.2.1, HF7.out.2.2⟩
        case measure => first | (simp [intOf]; done) | (simp [intOf]; omega)
      · have P2 := hide (P.out 600 (by unfold I64; omega))
        clear P
        go_wp2_with fail
        refine P2.out.mono ?_
        rintro e w7 ⟨x, a7, rfl, hx, ha7, s7, r7⟩
        have hx60 : x ≤ 599 := by omega
        have HO7 := hide (own_wrv HO6.out r7 hg)
        have HF7 := hide (And.intro (show a7 ≤ a + 6 + 6 * (q + 1) by have := HR.out; have := HS4.out; omega) (And.intro s7 (HW6.out.trans r7)))
        clear hx ha7 s7 r7 P2 HO6 HW6 HS4 ha6
        go_wp2_with fail
        go_roundw
        case rel => exact ⟨q + 1, r', D + 1, x, a7, xs ++ [⟨D, M, t, 0⟩], by omega, by go_num, by go_num, rfl, by omega, by omega, by rw [List.length_append, HL.out]; rfl, HO7.out, HR.out.1.snoc ⟨by omega, by omega⟩ ⟨by omega, by omega⟩ HT.out (.inl (by omega)), HF7.out.1, HF7.out.2.1, HF7.out.2.2⟩
        case measure => first | (simp [intOf]; done) | (simp [intOf]; omega)
    · have hr0 : r = 0 := by omega
      subst hr0
      obtain ⟨A9, c9, hv⟩ := own_slice HO.out
      subst hv
      have hrd : RdK kLine wr A9 q xs := RdK.of_own (K := kLine) HO.out HL.out (fun x hx => (HR.out.1.2.1 x hx).2.2)
      have MK := hide (l25Make_calls A9 q c9 xs wr hrd (by omega) HR.out.1.short)
      unfold MadePost at MK
      have hgr := HR.out.2.2.2.size
      obtain ⟨k1, k2, k3⟩ := HR.out.1.log (by rw [HL.out]; omega)
      have HK := hide (And.intro k1 (And.intro (k2.trans HL.out) (made_fine fun x hx => (HR.out.1.2.1 x hx).2.2)))
      have HK3 := hide (show ∀ x ∈ madeZ xs, x.day ≤ 16 from fun x hx => by have := k3 x hx; omega)
      have HWr := hide HR.out.2.2.2
      clear k1 k2 k3 hrd HR
      go_wp2_with fail
      refine MK.out.mono ?_
      rintro e w7 ⟨A7, c7, rfl, hown7, hb7⟩
      have HO7 := hide hown7
      have HB7 := hide (HWr.out.thenB hb7 hgr)
      have hc7 := own_cap hown7
      clear hown7 hb7 MK
      go_wp2
      go_ret
      exact ⟨A7, q, c7, madeZ xs, rfl, ⟨RdK.of_own (K := kLine) HO7.out HK.out.2.1 HK.out.2.2, HK.out.1, HK.out.2.1, by omega, hc7, HK3.out⟩, HB7.out⟩

theorem r8Log_calls (n c : Nat) (A : Option Addr) (bs : List Int) (w : World) (h : RdY w A n bs) (hn : n ≤ 1048576) :
    Calls Tryz.prog 20 #[.slice A n c] w fun e w' => ∃ (A' : Option Addr) (m c' : Nat) (xs : List LineZ), e = .returned (.slice A' m c') ∧ LogPost w w' A' m c' xs ∧ Below w.heap.size w w' := by
  have F := hide (l00From_calls n c A bs w h hn)
  clear h
  go_enter Tryz.func20, Tryz.ntmps20
  go_wp2_with fail
  refine F.out.mono ?_
  rintro e w1 ⟨rfl, s1, hb1, hz1⟩
  have D := hide (l25Draw_calls w.heap.size n c 0 A w1 s1 (by omega))
  have HB1 := hide hb1
  clear s1 hb1 F
  go_wp2_with fail
  refine D.out.mono ?_
  rintro e w2 ⟨A', m, c', xs, rfl, hp, r2⟩
  have HP := hide (And.intro hp r2)
  clear hp r2 D
  go_wp2
  go_ret
  exact ⟨A', m, c', xs, rfl, HP.out.1, HB1.out.trans ⟨HP.out.2.os, HP.out.2.tape, HP.out.2.output, HP.out.2.size, fun k hk => HP.out.2.block k (by omega) (by omega)⟩⟩

end Go.Proofs.YtcclfmapbgdpdaaGreatDoor
