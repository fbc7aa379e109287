/- KeepsTasks of the program and of the reference, where tasks are kept. -/
import Derived.Test.YtcclfmapbgdpdaaGreatDoorIdleI
import Derived.Test.YtcclfmapbgdpdaaGreatDoorValHS
namespace Go.Proofs.YtcclfmapbgdpdaaGreatDoor
open Go.RowKit
set_option linter.unusedVariables false

/-- A list of helpers keeps tasks. -/
def Keeps (hs ts : List HlpZ) (g : List Int) : Prop := g.length = ts.length ∧ g.Nodup ∧ (∀ x ∈ g, 0 ≤ x ∧ x < (hs.length : Int)) ∧ ∀ (i k : Nat) (h t : HlpZ), ts[i]? = some t → g[i]? = some (k : Int) → hs[k]? = some h → canB h t = true
theorem keeps_of {hs ts : List HlpZ} {g : List Int} (h : fitZ (helpZ hs) ts [] = some g) : Keeps hs ts g := by
  obtain ⟨s, h1, h2, h3, h4⟩ := fit_ok _ ts [] g h
  rw [List.nil_append] at h1
  subst h1
  have hb : ∀ x ∈ g, 0 ≤ x ∧ x < (hs.length : Int) := fun x hx => by
    obtain ⟨i, hi⟩ := List.mem_iff_getElem?.1 hx
    have hl := (List.getElem?_eq_some_iff.1 hi).1
    have := h4 i _ x (List.getElem?_eq_getElem (by omega : i < ts.length)) hi
    exact idxK_bd _ _ _ x this
  refine ⟨h2, h3 List.nodup_nil, hb, fun i k h t ht hg hk => ?_⟩
  have := h4 i t k ht hg
  exact (idxK_mem (p := fun h => canB h t) hk hs.length (List.getElem?_eq_some_iff.1 hk).1).1 this
theorem notin_take {g : List Int} {i : Nat} {x : Int} (hn : g.Nodup) (hx : g[i]? = some x) : x ∉ g.take i := by
  intro hm
  obtain ⟨j, hj⟩ := List.mem_iff_getElem?.1 hm
  rw [List.getElem?_take] at hj
  split at hj
  · next hji =>
    obtain ⟨p1, p2⟩ := List.getElem?_eq_some_iff.1 hj
    obtain ⟨p3, p4⟩ := List.getElem?_eq_some_iff.1 hx
    have := List.pairwise_iff_getElem.1 hn j i p1 p3 hji
    exact this (by rw [p2, p4])
  · cases hj
theorem RdI.first {w : World} {A : Option Addr} {n m : Nat} {xs : List Int} (h : RdI w A n xs) (hm : m ≤ n) : RdI w A m (xs.take m) := by
  refine ⟨⟨by simp [cI, h.len, Nat.min_eq_left hm], fun h0 => ?_⟩, fun x hx => h.2 x (List.mem_of_mem_take hx)⟩
  obtain ⟨b, off, e, hb, hc⟩ := h.1.2 (by omega)
  refine ⟨b, off, e, hb, fun j u hu => hc j u ?_⟩
  unfold cI at hu ⊢
  rw [List.map_take, List.getElem?_take] at hu
  split at hu
  · exact hu
  · cases hu

set_option maxHeartbeats 4000000 in
set_option maxRecDepth 100000 in
theorem implKeepsTasks_calls (A B D : Option Addr) (n c m d q e : Nat) (hs ts : List HlpZ) (g : List Int) (w : World) (h : RdK kHlp w A n hs) (h' : RdK kHlp w B m ts) (hD : RdI w D q g) (hqe : q ≤ e) (v1 : hlpsB hs = true) (v2 : tsksB ts = true) (hk : Keeps hs ts g) :
    Calls Tryz.prog 42 #[.slice A n c, .slice B m d, .slice D q e] w fun e' w' => e' = .returned (.bool true) ∧ Below w.heap.size w w' := by
  have hl1 := hlps_len v1
  have hl2 := tsks_len v2
  rw [h.2.1] at hl1
  rw [h'.2.1] at hl2
  have hqm : q = m := by rw [← hD.len, ← h'.2.1]; exact hk.1
  subst hqm
  have HP := hide (helped_calls A B n c q d hs ts w h h' (by omega) (by omega))
  have e0 : helpC hs ts = 0 := by unfold helpC; rw [v1, v2]; rfl
  rw [e0] at HP
  have HS := hide (And.intro (hlps_sk v1) (tsks_sk v2))
  have HK := hide hk
  have HH := hide (And.intro h (And.intro h' hD))
  have hnl := h.2.1
  have HNL := hide hnl
  clear h h' hD v1 v2 hk e0 hnl
  go_enter Tryz.func42, Tryz.ntmps42
  go_wp2_with fail
  refine HP.out.mono ?_
  rintro e' w1 ⟨rfl, hb1⟩
  have HB1 := hide hb1
  have HH1 := hide (And.intro (HH.out.1.below hb1 (Nat.le_refl _)) (And.intro (HH.out.2.1.below hb1 (Nat.le_refl _)) (HH.out.2.2.below hb1 (Nat.le_refl _))))
  clear hb1 HP HH
  go_wp2_with fail
  go_loopw [7, 8, 22] (fun _ _ i wr => ∃ k : Nat, k ≤ q ∧ i = .int .i64 k ∧ Hid (Below w1.heap.size w1 wr)) (fun _ _ i _ => q - (intOf i).toNat)
  case atStart => exact ⟨0, Nat.zero_le _, rfl, Below.refl _ _⟩
  case round =>
    obtain ⟨k, hk, rfl, HB⟩ := hrel
    by_cases hlt : k < q
    · have hD := HH1.out.2.2.below HB.out (Nat.le_refl _)
      obtain ⟨bd, od, x, hDA, hbd, hx, hcx, hx1, hx2⟩ := hD.at hlt
      have hxb := HK.out.2.2.1 x (List.mem_of_getElem? hx.out)
      rw [HNL.out] at hxb
      obtain ⟨y, rfl⟩ : ∃ y : Nat, x = (y : Int) := ⟨x.toNat, by omega⟩
      have hyn : y < n := by omega
      obtain ⟨ba, oa, f0, f1, f2, hAA, hba, hf, c0, c1, c2, _, _, _, _, _⟩ := (HH1.out.1.below HB.out (Nat.le_refl _)).atHlp hyn
      obtain ⟨bb, ob, g0, g1, g2, hBB, hbb, hg, d0, d1, d2, _, _, _, _, _⟩ := (HH1.out.2.1.below HB.out (Nat.le_refl _)).atHlp hlt
      have hcan := HK.out.2.2.2 k y _ _ hg.out hx.out hf.out
      have P0 := fun p : BelW wr => BelW.cell c0 hba p
      have P1 := fun p : BelW wr => BelW.cell c1 hba p
      have P2 := fun p : BelW wr => BelW.cell c2 hba p
      have R0 := fun p : BelW wr => BelW.cell d0 hbb p
      have R1 := fun p : BelW wr => BelW.cell d1 hbb p
      have R2 := fun p : BelW wr => BelW.cell d2 hbb p
      have HSZ : Hid (∀ p : BelW wr, Calls Tryz.prog 119 #[.slice A n c] p.1 fun e w'' => e = .returned (.int .i64 (n : Int)) ∧ ∃ q : BelW wr, w'' = q.1) := fun p => Calls.bel_same (sizeH_calls A n c p.1 (by omega))
      have hw1 := fun W => within_calls (y : Int) 0 ((n : Int) - 1) W
      rw [withinB_iff.2 (show (0 : Int) ≤ (y : Int) ∧ (y : Int) ≤ (n : Int) - 1 by omega)] at hw1
      have HWI : Hid (∀ p : BelW wr, Calls Tryz.prog 75 #[.int .i64 (y : Int), .int .i64 0, .int .i64 ((n : Int) - 1)] p.1 fun e w'' => e = .returned (.bool true) ∧ ∃ q : BelW wr, w'' = q.1) := fun p => Calls.bel_same (hw1 p.1)
      have hnt := notin_take HK.out.2.1 hx.out
      have HCO : Hid (∀ p : BelW wr, Calls Tryz.prog 86 #[.slice D k e, .int .i64 (y : Int)] p.1 fun e w'' => e = .returned (.bool false) ∧ ∃ q : BelW wr, w'' = q.1) := fun p => by
        have := containsI_calls D k e (g.take k) (y : Int) p.1 ((hD.first (by omega)).below p.2 (Nat.le_refl _)) (by omega)
        rw [decide_eq_false hnt] at this
        exact Calls.bel_same this
      have HCA : Hid (∀ p : BelW wr, Calls Tryz.prog 120 #[.agg #[.string f0, .int .i64 f1, .int .i64 f2], .agg #[.string g0, .int .i64 g1, .int .i64 g2]] p.1 fun e w'' => e = .returned (.bool true) ∧ ∃ q : BelW wr, w'' = q.1) := fun p => by
        have := can_calls f0 g0 f1 f2 g1 g2 p.1 (HS.out.1 _ (List.mem_of_getElem? hf.out)) (HS.out.2 _ (List.mem_of_getElem? hg.out))
        rw [hcan] at this
        exact Calls.bel this
      subst hDA
      subst hAA
      subst hBB
      have i0 : (0 : Int) ≤ (k : Int) := by omega
      have i1 : (k : Int) < (q : Int) := by omega
      have i2 : (k : Int) ≤ (e : Int) := by omega
      have i3 : (0 : Int) ≤ (y : Int) := by omega
      have i4 : (y : Int) < (n : Int) := by omega
      have ew : IntKind.i64.wrap ((n : Int) - 1) = (n : Int) - 1 := by rw [IntKind.wrap_i64]; omega
      have hsz := HB.out
      clear hD hx hxb hf hg hcan c0 c1 c2 d0 d1 d2 hnt hw1
      go_wp2_with fail
      refine wp_region_bel (by kernel_rfl) (by kernel_rfl) ?_
      repeat (refine WQ.step (fun K hK => ?_); go_simp; first | (refine hK _ ?_; clear hK K) | (apply Exists.intro; refine ⟨fun _ => ?_, hK _ ?_⟩; (first | (go_at_call 119; exact HSZ.out _) | (go_at_call 75; exact HWI.out _) | (go_at_call 86; exact HCO.out _) | (go_at_call 120; exact HCA.out _)); clear hK K))
      refine WQ.nil ?_
      rintro w3 ⟨⟨w3, hb3⟩, rfl⟩
      have HB3 := hide (HB.out.trans (hb3.mono HB.out.size))
      clear hb3 ew
      go_wp2
      go_roundw
      case rel => exact ⟨k + 1, by omega, by go_num, HB3⟩
      case measure => simp [intOf]; omega
    · have hkq : k = q := by omega
      subst hkq
      have HW := hide (HB1.out.trans (HB.out.mono HB1.out.size))
      go_wp2
      go_ret
      exact ⟨rfl, HW.out⟩

end Go.Proofs.YtcclfmapbgdpdaaGreatDoor
