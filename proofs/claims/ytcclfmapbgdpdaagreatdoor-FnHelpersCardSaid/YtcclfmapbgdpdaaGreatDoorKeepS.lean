/- KeepsTasks of the reference, where tasks are kept. -/
import Derived.Test.YtcclfmapbgdpdaaGreatDoorKeepI
namespace Go.Proofs.YtcclfmapbgdpdaaGreatDoor
open Go.RowKit
set_option linter.unusedVariables false

set_option maxHeartbeats 2000000 in
theorem l24Can_calls (r s : ByteArray) (o k p m : Int) (ba qa bb qb : Nat) (w : World) (ha : ba < w.heap.size) (hb : bb < w.heap.size) (a1 : w.cell? ⟨ba, qa + 1, none⟩ = some (.int .i64 o)) (a2 : w.cell? ⟨ba, qa + 2, none⟩ = some (.int .i64 k)) (b1 : w.cell? ⟨bb, qb + 1, none⟩ = some (.int .i64 p)) (b2 : w.cell? ⟨bb, qb + 2, none⟩ = some (.int .i64 m)) :
    Calls Tryz.prog 188 #[.pointer (some ⟨ba, qa, none⟩), .pointer (some ⟨bb, qb, none⟩)] w fun e w' => e = .returned (.bool (canB ⟨r, o, k⟩ ⟨s, p, m⟩)) ∧ Below w.heap.size w w' := by
  have HC : Hid (canB ⟨r, o, k⟩ ⟨s, p, m⟩ = ((bits .and .i64 o p == p) && decide (k ≤ m))) := rfl
  rw [HC.out]
  clear HC
  have A1 := fun x : BelW w => BelW.cell a1 ha x
  have A2 := fun x : BelW w => BelW.cell a2 ha x
  have B1 := fun x : BelW w => BelW.cell b1 hb x
  have B2 := fun x : BelW w => BelW.cell b2 hb x
  rcases b_cases (bits .and .i64 o p == p) with h1 | h1
  · rw [h1]
    go_enter Tryz.func188, Tryz.ntmps188
    go_wp2_with fail
    refine wp_region_bel (by kernel_rfl) (by kernel_rfl) ?_
    repeat (refine WQ.step (fun K hK => ?_); go_simp; refine hK _ ?_; clear hK K)
    refine WQ.nil ?_
    rintro w3 ⟨⟨w3, hb3⟩, rfl⟩
    go_wp2
    go_ret
    exact ⟨rfl, hb3⟩
  · rw [h1]
    by_cases h2 : k ≤ m
    · have d : decide (k ≤ m) = true := decide_eq_true h2
      rw [d]
      go_enter Tryz.func188, Tryz.ntmps188
      go_wp2_with fail
      refine wp_region_bel (by kernel_rfl) (by kernel_rfl) ?_
      repeat (refine WQ.step (fun K hK => ?_); go_simp; refine hK _ ?_; clear hK K)
      refine WQ.nil ?_
      rintro w3 ⟨⟨w3, hb3⟩, rfl⟩
      go_wp2
      go_ret
      exact ⟨rfl, hb3⟩
    · have d : decide (k ≤ m) = false := decide_eq_false h2
      rw [d]
      go_enter Tryz.func188, Tryz.ntmps188
      go_wp2_with fail
      refine wp_region_bel (by kernel_rfl) (by kernel_rfl) ?_
      repeat (refine WQ.step (fun K hK => ?_); go_simp; refine hK _ ?_; clear hK K)
      refine WQ.nil ?_
      rintro w3 ⟨⟨w3, hb3⟩, rfl⟩
      go_wp2
      go_ret
      exact ⟨rfl, hb3⟩

set_option maxHeartbeats 4000000 in
set_option maxRecDepth 100000 in
theorem l24Fills_calls (A B D : Option Addr) (n c m d q e : Nat) (hs ts : List HlpZ) (g : List Int) (w : World) (h : RdK kHlp w A n hs) (h' : RdK kHlp w B m ts) (hD : RdI w D q g) (hqe : q ≤ e) (hl1 : n ≤ 10) (hl2 : m ≤ 8) (hk : Keeps hs ts g) :
    Calls Tryz.prog 123 #[.slice A n c, .slice B m d, .slice D q e] w fun e' w' => e' = .returned (.bool true) ∧ Below w.heap.size w w' := by
  have hqm : q = m := by rw [← hD.len, ← h'.2.1]; exact hk.1
  subst hqm
  have HK := hide hk
  have HH1 := hide (And.intro h (And.intro h' hD))
  have hnl := h.2.1
  have HNL := hide hnl
  clear h h' hD hk hnl
  go_enter Tryz.func123, Tryz.ntmps123
  go_wp2_with fail
  go_loopw [7] (fun i wr => ∃ k : Nat, k ≤ q ∧ i = .int .i64 k ∧ Hid (Below w.heap.size w wr)) (fun i _ => q - (intOf i).toNat)
  case atStart => exact ⟨0, Nat.zero_le _, rfl, Below.refl _ _⟩
  case round =>
    obtain ⟨k, hk, rfl, HB⟩ := hrel
    by_cases hlt : k < q
    · have hD := HH1.out.2.2.below HB.out (Nat.le_refl _)
      obtain ⟨bd, od, x, hDA, hbd, hx, hcx, hx1, hx2⟩ := hD.at hlt
      have hxb := HK.out.2.2.1 x (List.mem_of_getElem? hx.out)
      rw [HNL.out] at hxb
      obtain ⟨y, rfl⟩ : ∃ y : Nat, x = (y : Int) := ⟨x.toNat, by omega⟩
      have hyn : y < n := by omega
      obtain ⟨ba, oa, f0, f1, f2, hAA, hba, hf, c0, c1, c2, _, _, _, _, _⟩ := (HH1.out.1.below HB.out (Nat.le_refl _)).atHlp hyn
      obtain ⟨bb, ob, g0, g1, g2, hBB, hbb, hg, d0, d1, d2, _, _, _, _, _⟩ := (HH1.out.2.1.below HB.out (Nat.le_refl _)).atHlp hlt
      have hcan := HK.out.2.2.2 k y _ _ hg.out hx.out hf.out
      have PX := fun p : BelW wr => BelW.cell hcx hbd p
      have hw1 := fun W => l00In_calls (y : Int) 0 ((n : Int) - 1) W
      rw [withinB_iff.2 (show (0 : Int) ≤ (y : Int) ∧ (y : Int) ≤ (n : Int) - 1 by omega)] at hw1
      have HWI : Hid (∀ p : BelW wr, Calls Tryz.prog 162 #[.int .i64 (y : Int), .int .i64 0, .int .i64 ((n : Int) - 1)] p.1 fun e w'' => e = .returned (.bool true) ∧ ∃ q : BelW wr, w'' = q.1) := fun p => Calls.bel_same (hw1 p.1)
      have hnt := notin_take HK.out.2.1 hx.out
      have HCO : Hid (∀ p : BelW wr, Calls Tryz.prog 187 #[.slice D k e, .int .i64 (y : Int)] p.1 fun e w'' => e = .returned (.bool false) ∧ ∃ q : BelW wr, w'' = q.1) := fun p => by
        have := l00Has_calls D k e (g.take k) (y : Int) p.1 ((hD.first (by omega)).below p.2 (Nat.le_refl _)) (by omega)
        rw [decide_eq_false hnt] at this
        exact Calls.bel_same this
      have HCA : Hid (∀ p : BelW wr, Calls Tryz.prog 188 #[.pointer (some ⟨ba, oa + y * 3, none⟩), .pointer (some ⟨bb, ob + k * 3, none⟩)] p.1 fun e w'' => e = .returned (.bool true) ∧ ∃ q : BelW wr, w'' = q.1) := fun p => by
        have hz := p.2.size
        have := l24Can_calls f0 g0 f1 f2 g1 g2 ba (oa + y * 3) bb (ob + k * 3) p.1 (by omega) (by omega) (BelW.cell c1 hba p) (BelW.cell c2 hba p) (BelW.cell d1 hbb p) (BelW.cell d2 hbb p)
        rw [hcan] at this
        exact Calls.bel this
      subst hDA
      subst hAA
      subst hBB
      have i0 : (0 : Int) ≤ (k : Int) := by omega
      have i1 : (k : Int) < (q : Int) := by omega
      have i2 : (k : Int) ≤ (e : Int) := by omega
      have i3 : (0 : Int) ≤ (y : Int) := by omega
      have i4 : (y : Int) < (n : Int) := by omega
      have ew : IntKind.i64.wrap ((n : Int) - 1) = (n : Int) - 1 := by rw [IntKind.wrap_i64]; omega
      clear hD hx hxb hf hg hcan c0 c1 c2 d0 d1 d2 hnt hw1
      go_wp2_with fail
      refine wp_region_bel (by kernel_rfl) (by kernel_rfl) ?_
      repeat (refine WQ.step (fun K hK => ?_); go_simp; first | (refine hK _ ?_; clear hK K) | (apply Exists.intro; refine ⟨fun _ => ?_, hK _ ?_⟩; (first | (go_at_call 162; exact HWI.out _) | (go_at_call 187; exact HCO.out _) | (go_at_call 188; exact HCA.out _)); clear hK K))
      refine WQ.nil ?_
      rintro w3 ⟨⟨w3, hb3⟩, rfl⟩
      have HB3 := hide (HB.out.trans (hb3.mono HB.out.size))
      clear hb3 ew
      go_wp2
      go_roundw
      case rel => exact ⟨k + 1, by omega, by go_num, HB3⟩
      case measure => simp [intOf]; omega
    · have hkq : k = q := by omega
      subst hkq
      go_wp2
      go_ret
      exact ⟨rfl, HB.out⟩

theorem specKeepsTasks_calls (A B D : Option Addr) (n c m d q e : Nat) (hs ts : List HlpZ) (g : List Int) (w : World) (h : RdK kHlp w A n hs) (h' : RdK kHlp w B m ts) (hD : RdI w D q g) (hqe : q ≤ e) (v1 : hlpsB hs = true) (v2 : tsksB ts = true) (hk : Keeps hs ts g) :
    Calls Tryz.prog 43 #[.slice A n c, .slice B m d, .slice D q e] w fun e' w' => e' = .returned (.bool true) ∧ Below w.heap.size w w' := by
  have hl1 := hlps_len v1
  have hl2 := tsks_len v2
  rw [h.2.1] at hl1
  rw [h'.2.1] at hl2
  have H1 := hide (specl24Helpers_calls A n c hs w h (by omega))
  rw [v1] at H1
  have H2 := hide (fun W (hW : RdK kHlp W B m ts) => specl24Tasks_calls B m d ts W hW (by omega))
  rw [v2] at H2
  have H3 := hide (fun W (a : RdK kHlp W A n hs) (b : RdK kHlp W B m ts) (c' : RdI W D q g) => l24Fills_calls A B D n c m d q e hs ts g W a b c' hqe hl1 hl2 hk)
  have HH := hide (And.intro h (And.intro h' hD))
  clear h h' hD v1 v2 hk
  go_enter Tryz.func43, Tryz.ntmps43
  go_wp2_with fail
  refine H1.out.mono ?_
  rintro e' w1 ⟨rfl, hb1⟩
  go_wp2_with fail
  refine (H2.out w1 (HH.out.2.1.below hb1 (Nat.le_refl _))).mono ?_
  rintro e' w2 ⟨rfl, hb2⟩
  have hb12 := hb1.trans (hb2.mono hb1.size)
  go_wp2_with fail
  refine (H3.out w2 (HH.out.1.below hb12 (Nat.le_refl _)) (HH.out.2.1.below hb12 (Nat.le_refl _)) (HH.out.2.2.below hb12 (Nat.le_refl _))).mono ?_
  rintro e' w3 ⟨rfl, hb3⟩
  go_wp2
  go_ret
  exact ⟨rfl, hb12.trans (hb3.mono hb12.size)⟩

end Go.Proofs.YtcclfmapbgdpdaaGreatDoor
