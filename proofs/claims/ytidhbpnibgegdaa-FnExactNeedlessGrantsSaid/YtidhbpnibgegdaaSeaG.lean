/- slices.BinarySearchFunc over grants, slices.Clone over grants. -/
import Derived.Test.YtidhbpnibgegdaaOkG
import Derived.Lib.SliceRun
namespace Go.Proofs.Ytidhbpnibgegdaa
open Go.RowKit
set_option linter.unusedVariables false

/-- Where a grant stands, or would stand. -/
def IsIdxG (gs : List GrantZ) (x : GrantZ) (i : Nat) : Prop := (∀ (k : Nat) (s : GrantZ), gs[k]? = some s → k < i → gLess s x = true) ∧ ∀ (k : Nat) (s : GrantZ), gs[k]? = some s → i ≤ k → gLess s x = false
theorem idxG_low {gs : List GrantZ} {x : GrantZ} (hs : SortG gs) {h : Nat} {s : GrantZ} (hx : gs[h]? = some s) (hl : gLess s x = true) : ∀ k t, gs[k]? = some t → k < h + 1 → gLess t x = true := by
  intro k t ht hk
  rcases Nat.lt_or_ge k h with h1 | h1
  · obtain ⟨hk1, e1⟩ := List.getElem?_eq_some_iff.1 ht
    obtain ⟨hk2, e2⟩ := List.getElem?_eq_some_iff.1 hx
    have := List.pairwise_iff_getElem.1 hs k h hk1 hk2 h1
    rw [e1, e2] at this
    exact gLess_trans this hl
  · obtain rfl : k = h := by omega
    rw [hx] at ht
    injection ht with ht
    rwa [← ht]
theorem idxG_high {gs : List GrantZ} {x : GrantZ} (hs : SortG gs) {h : Nat} {s : GrantZ} (hx : gs[h]? = some s) (hl : gLess s x = false) : ∀ k t, gs[k]? = some t → h ≤ k → gLess t x = false := by
  intro k t ht hk
  rcases Nat.lt_or_ge h k with h1 | h1
  · obtain ⟨hk1, e1⟩ := List.getElem?_eq_some_iff.1 ht
    obtain ⟨hk2, e2⟩ := List.getElem?_eq_some_iff.1 hx
    have := List.pairwise_iff_getElem.1 hs h k hk2 hk1 h1
    rw [e1, e2] at this
    rcases b_cases (gLess t x) with e | e
    · exact e
    · rw [gLess_trans this e] at hl
      cases hl
  · obtain rfl : k = h := by omega
    rw [hx] at ht
    injection ht with ht
    rwa [← ht]
/-- What the binary search gives: a place, the right one where the grants are in order, and whether the grant stands there. -/
def SeaPostG (gs : List GrantZ) (x : GrantZ) (w : World) (e : Ending) (w' : World) : Prop :=
  ∃ (i : Nat) (q : Bool), e = .returned (.tuple #[.int .i64 i, .bool q]) ∧ i ≤ gs.length ∧ (SortG gs → IsIdxG gs x i) ∧ (q = true ↔ gs[i]? = some x) ∧ Below w.heap.size w w'

set_option maxRecDepth 100000 in
set_option maxHeartbeats 4000000 in
theorem searchG_calls (A : Option Addr) (n c : Nat) (gs : List GrantZ) (x : GrantZ) (w : World) (h : RdK kGrant w A n gs) (hn : n ≤ 1048576) :
    Calls Try.prog 80 #[.slice A n c, .agg #[.string x.role, .string x.object, .int .i64 x.action], .func (.func 70) #[] #[]] w (SeaPostG gs x w) := by
  have HL := hide h.2.1
  obtain ⟨x0, x1, x2⟩ := x
  simp only
  obtain ⟨W0, hW0⟩ : ∃ W0, W0 = w.alloc (.cells #[.string x0, .string x1, .int .i64 x2] 49) := ⟨_, rfl⟩
  have hB : Below w.heap.size w W0 := by rw [hW0]; exact (Below.refl _ _).alloc (Nat.le_refl _) _
  have g0 : W0.cell? ⟨w.heap.size, 0, none⟩ = some (.string x0) := by rw [hW0]; simp
  have g1 : W0.cell? ⟨w.heap.size, 1, none⟩ = some (.string x1) := by rw [hW0]; simp
  have g2 : W0.cell? ⟨w.heap.size, 2, none⟩ = some (.int .i64 x2) := by rw [hW0]; simp
  have hz : w.heap.size < W0.heap.size := by rw [hW0]; simp
  have h0 := h.below hB (Nat.le_refl _)
  have HG := hide (And.intro g0 (And.intro g1 g2))
  have HCC : Hid (∀ p0 p1 p2 W, Calls Try.prog 70 #[.agg #[.string p0, .string p1, .int .i64 p2], .agg #[.string x0, .string x1, .int .i64 x2]] W fun e w' => e = .returned (.int .i64 (cmpG ⟨p0, p1, p2⟩ ⟨x0, x1, x2⟩)) ∧ Below W.heap.size W w') := fun p0 p1 p2 W => compareGrants_calls ⟨p0, p1, p2⟩ ⟨x0, x1, x2⟩ W
  have hcf := Try.call70
  clear g0 g1 g2 h
  go_enter Try.func80, Try.ntmps80
  go_wp2
  rw [← hW0]
  clear hW0
  go_loopw [9, 10] (fun a b wr => ∃ (i j : Nat), i ≤ j ∧ j ≤ n ∧ a = .int .i64 i ∧ b = .int .i64 j ∧ Hid (SortG gs → (∀ (k : Nat) (s : GrantZ), gs[k]? = some s → k < i → gLess s ⟨x0, x1, x2⟩ = true) ∧ ∀ (k : Nat) (s : GrantZ), gs[k]? = some s → j ≤ k → gLess s ⟨x0, x1, x2⟩ = false) ∧ Below W0.heap.size W0 wr) (fun a b _ => (intOf b).toNat - (intOf a).toNat)
  case atStart => exact ⟨0, n, Nat.zero_le _, Nat.le_refl _, rfl, rfl, fun _ => ⟨fun k s _ h => absurd h (by omega), fun k s hk h => by have h1 := (List.getElem?_eq_some_iff.1 hk).1; rw [HL.out] at h1; omega⟩, Below.refl _ _⟩
  case round =>
    obtain ⟨i, j, hij, hj, rfl, rfl, HB, hb⟩ := hrel
    have hbw := hB.trans (hb.mono hB.size)
    have hzr : w.heap.size < wr.heap.size := Nat.lt_of_lt_of_le hz hb.size
    have e0 := (hb.cell (p := ⟨w.heap.size, 0, none⟩) hz).trans HG.out.1
    have e1 := (hb.cell (p := ⟨w.heap.size, 1, none⟩) hz).trans HG.out.2.1
    have e2 := (hb.cell (p := ⟨w.heap.size, 2, none⟩) hz).trans HG.out.2.2
    by_cases hlt : i < j
    · obtain ⟨b, off, p0, p1, p2, rfl, hbl, hx, d0, d1, d2, _, _, _, _⟩ := (h0.below hb (Nat.le_refl _)).atGrant (k := (i + j) / 2) (by omega)
      have m1 : (i + j) / 2 < j := by omega
      have m2 : i ≤ (i + j) / 2 := by omega
      have i1 : (0 : Int) ≤ ((i : Int) + (j : Int)) / 2 := by omega
      have i2 : ((i : Int) + (j : Int)) / 2 < (n : Int) := by omega
      have i3 : (((i : Int) + (j : Int)) / 2).toNat = (i + j) / 2 := by omega
      have HC := hide (HCC.out p0 p1 p2 wr.drew)
      rcases cmpG_ways ⟨p0, p1, p2⟩ ⟨x0, x1, x2⟩ with ⟨q1, q2, q3, q4⟩ | ⟨q1, q2, q3, q4⟩ | ⟨q1, q2, q3, q4⟩
      · have HN : Hid (SortG gs → (∀ (k : Nat) (s : GrantZ), gs[k]? = some s → k < (i + j) / 2 + 1 → gLess s ⟨x0, x1, x2⟩ = true) ∧ ∀ (k : Nat) (s : GrantZ), gs[k]? = some s → j ≤ k → gLess s ⟨x0, x1, x2⟩ = false) := fun hs => ⟨idxG_low hs hx.out q1, (HB.out hs).2⟩
        rw [q4] at HC
        clear q1 q2 q3 q4
        go_wp2
        go_region_held3 (fun w' => w'.cell? ⟨w.heap.size, 0, none⟩ = some (.string x0) ∧ w'.cell? ⟨w.heap.size, 1, none⟩ = some (.string x1) ∧ w'.cell? ⟨w.heap.size, 2, none⟩ = some (.int .i64 x2) ∧ w'.cell? ⟨b, off + (i + j) / 2 * 3, none⟩ = some (.string p0) ∧ w'.cell? ⟨b, off + (i + j) / 2 * 3 + 1, none⟩ = some (.string p1) ∧ w'.cell? ⟨b, off + (i + j) / 2 * 3 + 2, none⟩ = some (.int .i64 p2))
          (first | exact ⟨e0, e1, e2, d0, d1, d2⟩ | exact ⟨(hb3.cell (p := ⟨w.heap.size, 0, none⟩) hzr).trans e0, (hb3.cell (p := ⟨w.heap.size, 1, none⟩) hzr).trans e1, (hb3.cell (p := ⟨w.heap.size, 2, none⟩) hzr).trans e2, (hb3.cell (p := ⟨b, off + (i + j) / 2 * 3, none⟩) hbl).trans d0, (hb3.cell (p := ⟨b, off + (i + j) / 2 * 3 + 1, none⟩) hbl).trans d1, (hb3.cell (p := ⟨b, off + (i + j) / 2 * 3 + 2, none⟩) hbl).trans d2⟩)
          (first | (go_at_call 70; refine HC.out.mono ?_; rintro e w3 ⟨rfl, hb3⟩))
        have hbn := hb.drew.trans (hb3.mono hb.size)
        go_wp2
        go_roundw
        case rel => exact ⟨(i + j) / 2 + 1, j, by omega, hj, by go_num, rfl, HN, hbn⟩
        case measure => simp [intOf]; omega
      all_goals
        have HN : Hid (SortG gs → (∀ (k : Nat) (s : GrantZ), gs[k]? = some s → k < i → gLess s ⟨x0, x1, x2⟩ = true) ∧ ∀ (k : Nat) (s : GrantZ), gs[k]? = some s → (i + j) / 2 ≤ k → gLess s ⟨x0, x1, x2⟩ = false) := fun hs => ⟨(HB.out hs).1, idxG_high hs hx.out q1⟩
        rw [q4] at HC
        clear q1 q2 q3 q4
        go_wp2
        go_region_held3 (fun w' => w'.cell? ⟨w.heap.size, 0, none⟩ = some (.string x0) ∧ w'.cell? ⟨w.heap.size, 1, none⟩ = some (.string x1) ∧ w'.cell? ⟨w.heap.size, 2, none⟩ = some (.int .i64 x2) ∧ w'.cell? ⟨b, off + (i + j) / 2 * 3, none⟩ = some (.string p0) ∧ w'.cell? ⟨b, off + (i + j) / 2 * 3 + 1, none⟩ = some (.string p1) ∧ w'.cell? ⟨b, off + (i + j) / 2 * 3 + 2, none⟩ = some (.int .i64 p2))
          (first | exact ⟨e0, e1, e2, d0, d1, d2⟩ | exact ⟨(hb3.cell (p := ⟨w.heap.size, 0, none⟩) hzr).trans e0, (hb3.cell (p := ⟨w.heap.size, 1, none⟩) hzr).trans e1, (hb3.cell (p := ⟨w.heap.size, 2, none⟩) hzr).trans e2, (hb3.cell (p := ⟨b, off + (i + j) / 2 * 3, none⟩) hbl).trans d0, (hb3.cell (p := ⟨b, off + (i + j) / 2 * 3 + 1, none⟩) hbl).trans d1, (hb3.cell (p := ⟨b, off + (i + j) / 2 * 3 + 2, none⟩) hbl).trans d2⟩)
          (first | (go_at_call 70; refine HC.out.mono ?_; rintro e w3 ⟨rfl, hb3⟩))
        have hbn := hb.drew.trans (hb3.mono hb.size)
        go_wp2
        go_roundw
        case rel => exact ⟨i, (i + j) / 2, by omega, by omega, rfl, by go_num, HN, hbn⟩
        case measure => simp [intOf]; omega
    · have hkn : i = j := by omega
      subst hkn
      by_cases hin : i < n
      · obtain ⟨b, off, p0, p1, p2, rfl, hbl, hx, d0, d1, d2, _, _, _, _⟩ := (h0.below hb (Nat.le_refl _)).atGrant hin
        have HC := hide (HCC.out p0 p1 p2 wr.drew)
        have hd : decide (i < n) = true := decide_eq_true hin
        rcases cmpG_ways ⟨p0, p1, p2⟩ ⟨x0, x1, x2⟩ with ⟨q1, q2, q3, q4⟩ | ⟨q1, q2, q3, q4⟩ | ⟨q1, q2, q3, q4⟩
        case inr.inl =>
          have HF : Hid (gs[i]? = some (⟨x0, x1, x2⟩ : GrantZ)) := by unfold Hid; rw [hx.out, q3]
          rw [q4] at HC
          clear q1 q2 q3 q4
          go_wp2
          go_region_held3 (fun w' => w'.cell? ⟨w.heap.size, 0, none⟩ = some (.string x0) ∧ w'.cell? ⟨w.heap.size, 1, none⟩ = some (.string x1) ∧ w'.cell? ⟨w.heap.size, 2, none⟩ = some (.int .i64 x2) ∧ w'.cell? ⟨b, off + i * 3, none⟩ = some (.string p0) ∧ w'.cell? ⟨b, off + i * 3 + 1, none⟩ = some (.string p1) ∧ w'.cell? ⟨b, off + i * 3 + 2, none⟩ = some (.int .i64 p2))
            (first | exact ⟨e0, e1, e2, d0, d1, d2⟩ | exact ⟨(hb3.cell (p := ⟨w.heap.size, 0, none⟩) hzr).trans e0, (hb3.cell (p := ⟨w.heap.size, 1, none⟩) hzr).trans e1, (hb3.cell (p := ⟨w.heap.size, 2, none⟩) hzr).trans e2, (hb3.cell (p := ⟨b, off + i * 3, none⟩) hbl).trans d0, (hb3.cell (p := ⟨b, off + i * 3 + 1, none⟩) hbl).trans d1, (hb3.cell (p := ⟨b, off + i * 3 + 2, none⟩) hbl).trans d2⟩)
            (first | (go_at_call 70; refine HC.out.mono ?_; rintro e w3 ⟨rfl, hb3⟩))
          have hbn := hbw.drew.trans (hb3.mono hbw.size)
          go_wp2
          go_ret2
          exact ⟨i, true, rfl, by rw [HL.out]; exact hj, HB.out, ⟨fun _ => HF.out, fun _ => rfl⟩, hbn⟩
        all_goals
          have HF : Hid (¬ gs[i]? = some (⟨x0, x1, x2⟩ : GrantZ)) := by
            intro hv'
            rw [hx.out] at hv'
            exact q3 (Option.some.inj hv')
          rw [q4] at HC
          clear q1 q2 q3 q4
          go_wp2
          go_region_held3 (fun w' => w'.cell? ⟨w.heap.size, 0, none⟩ = some (.string x0) ∧ w'.cell? ⟨w.heap.size, 1, none⟩ = some (.string x1) ∧ w'.cell? ⟨w.heap.size, 2, none⟩ = some (.int .i64 x2) ∧ w'.cell? ⟨b, off + i * 3, none⟩ = some (.string p0) ∧ w'.cell? ⟨b, off + i * 3 + 1, none⟩ = some (.string p1) ∧ w'.cell? ⟨b, off + i * 3 + 2, none⟩ = some (.int .i64 p2))
            (first | exact ⟨e0, e1, e2, d0, d1, d2⟩ | exact ⟨(hb3.cell (p := ⟨w.heap.size, 0, none⟩) hzr).trans e0, (hb3.cell (p := ⟨w.heap.size, 1, none⟩) hzr).trans e1, (hb3.cell (p := ⟨w.heap.size, 2, none⟩) hzr).trans e2, (hb3.cell (p := ⟨b, off + i * 3, none⟩) hbl).trans d0, (hb3.cell (p := ⟨b, off + i * 3 + 1, none⟩) hbl).trans d1, (hb3.cell (p := ⟨b, off + i * 3 + 2, none⟩) hbl).trans d2⟩)
            (first | (go_at_call 70; refine HC.out.mono ?_; rintro e w3 ⟨rfl, hb3⟩))
          have hbn := hbw.drew.trans (hb3.mono hbw.size)
          go_wp2
          go_ret2
          exact ⟨i, false, rfl, by rw [HL.out]; exact hj, HB.out, ⟨(fun h => by cases h), fun h => absurd h HF.out⟩, hbn⟩
      · have HF : Hid (¬ gs[i]? = some (⟨x0, x1, x2⟩ : GrantZ)) := by
          intro hv'
          have h1 := (List.getElem?_eq_some_iff.1 hv').1
          rw [HL.out] at h1
          exact hin h1
        have hd : decide (i < n) = false := decide_eq_false hin
        go_wp2
        go_quiet (fail)
        go_wp2
        go_ret2
        exact ⟨i, false, rfl, by rw [HL.out]; exact hj, HB.out, ⟨(fun h => by cases h), fun h => absurd h HF.out⟩, (by first | exact hbw | exact below_drewN hbw _)⟩

set_option maxHeartbeats 1000000 in
theorem cloneG_calls (A : Option Addr) (n c : Nat) (gs : List GrantZ) (w : World) (h : RdK kGrant w A n gs) (hn : n ≤ 1048576) :
    Calls Try.prog 82 #[.slice A n c] w fun e w' => ∃ A' c', e = .returned (.slice A' n c') ∧ w'.ownsRow w.heap.size 49 3 (.slice A' n c') n (cK kGrant gs) ∧ (A' = none → c' = 0) ∧ Below w.heap.size w w' := by
  have heq := fun (w : World) (a : Option Addr) => Lib.run_eql_slice_nil (P := Try.prog) w 39 49 a n c 0 0 Try.underlying39
  rcases A with _ | ad
  · have h0 : n = 0 := by
      rcases Nat.eq_zero_or_pos n with h0 | h0
      · exact h0
      · obtain ⟨_, _, hA, _⟩ := h.1.2 h0
        cases hA
    subst h0
    have hs : gs = [] := List.eq_nil_of_length_eq_zero h.2.1
    subst hs
    have ho := World.ownsRow_nil w w.heap.size 49 3
    have HO := hide ho
    clear ho h
    go_enter Try.func82, Try.ntmps82
    go_wp2
    go_ret
    exact ⟨none, 0, rfl, HO.out, fun _ => rfl, Below.refl _ _⟩
  · have hlit := World.ownsRow_lit (base := w.heap.size) (e := 49) (size := 3) w #[] 0 (Nat.le_refl _) (by simp) rfl
    have hba : Below w.heap.size w (w.alloc (.cells #[] 49)) := (Below.refl _ _).alloc (Nat.le_refl _) _
    have HO := hide (And.intro hlit (h.1.below hba (Nat.le_refl _)))
    clear hlit h
    go_enter Try.func82, Try.ntmps82
    go_wp2_with (at_builtin; refine appsGrant rfl _ _ rfl w.heap.size (.slice (some ⟨w.heap.size, 0, none⟩) 0 0) 0 [] rfl HO.out.1 (some ad) n c gs rfl HO.out.2 (by omega) (by simp) ?_; intro v' w4 hown4 hb4 hz4)
    rw [Nat.zero_add, List.nil_append] at hown4
    obtain ⟨A', c', rfl⟩ := own_slice hown4
    have hnil : A' = none → c' = 0 := by
      rintro rfl
      rcases hown4.2 with ⟨hv, _⟩ | ⟨g, cap, cur, hv, _⟩
      · injection hv with _ _ hc
      · injection hv with hv
        cases hv
    go_ret
    exact ⟨A', c', rfl, hown4, hnil, hba.trans hb4⟩

end Go.Proofs.Ytidhbpnibgegdaa
