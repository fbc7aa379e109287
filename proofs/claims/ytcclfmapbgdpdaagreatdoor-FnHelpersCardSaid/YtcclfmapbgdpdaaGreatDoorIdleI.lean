/- IdleHelpers of the program. -/
import Derived.Test.YtcclfmapbgdpdaaGreatDoorHelT
import Derived.Test.YtcclfmapbgdpdaaGreatDoorMg
namespace Go.Proofs.YtcclfmapbgdpdaaGreatDoor
open Go.RowKit
set_option linter.unusedVariables false

set_option maxHeartbeats 1000000 in
/-- No number answers. -/
theorem indexFI_none (A : Option Addr) (n c : Nat) (xs : List Int) (f : Nat) (caps : Array Value) (w : World) (h : RdI w A n xs) (hn : n ≤ 1048576)
    (hcf : ∀ args w, Sem.run Tryz.prog (callFunc f args) w = .ok (.enter f args) w)
    (hf : ∀ W x, Below w.heap.size w W → x ∈ xs → Calls Tryz.prog f (#[.int .i64 x] ++ caps) W fun e w' => e = .returned (.bool false) ∧ Below W.heap.size W w') :
    Calls Tryz.prog 185 #[.slice A n c, .func (.func f) #[] caps] w fun e w' => e = .returned (.int .i64 (-1)) ∧ Below w.heap.size w w' := by
  have HF := hide hf
  clear hf
  go_enter Tryz.func185, Tryz.ntmps185
  go_wp2
  go_loopw [8] (fun i wr => ∃ (k : Nat), k ≤ n ∧ i = .int .i64 k ∧ Below w.heap.size w wr) (fun i _ => n - (intOf i).toNat)
  case atStart => exact ⟨0, Nat.zero_le _, rfl, Below.refl _ _⟩
  case round =>
    obtain ⟨k, hk, rfl, hb⟩ := hrel
    by_cases hlt : k < n
    · obtain ⟨b, off, s, rfl, hbl, hx, hc, hs1, hs2⟩ := (h.below hb (Nat.le_refl _)).at hlt
      have HM := hide (HF.out wr s hb (List.mem_of_getElem? hx.out))
      go_wp2_with fail
      refine HM.out.mono ?_
      rintro e w2 ⟨rfl, hb2⟩
      go_wp2
      go_roundw
      case rel => exact ⟨k + 1, by omega, by go_num, hb.trans (hb2.mono hb.size)⟩
      case measure => simp [intOf]; omega
    · have hkn : k = n := by omega
      subst hkn
      go_wp2
      go_ret
      exact ⟨rfl, hb⟩
theorem containsFI_none (A : Option Addr) (n c : Nat) (xs : List Int) (f : Nat) (caps : Array Value) (w : World) (h : RdI w A n xs) (hn : n ≤ 1048576)
    (hcf : ∀ args w, Sem.run Tryz.prog (callFunc f args) w = .ok (.enter f args) w)
    (hf : ∀ W x, Below w.heap.size w W → x ∈ xs → Calls Tryz.prog f (#[.int .i64 x] ++ caps) W fun e w' => e = .returned (.bool false) ∧ Below W.heap.size W w') :
    Calls Tryz.prog 117 #[.slice A n c, .func (.func f) #[] caps] w fun e w' => e = .returned (.bool false) ∧ Below w.heap.size w w' := by
  have HC := hide (indexFI_none A n c xs f caps w h hn hcf hf)
  clear h hf hcf
  go_enter Tryz.func117, Tryz.ntmps117
  go_wp2_with fail
  refine HC.out.mono ?_
  rintro e w' ⟨rfl, hb⟩
  go_wp2
  go_ret
  exact ⟨rfl, hb⟩

theorem sizeH_calls (A : Option Addr) (n c : Nat) (w : World) (hn : n ≤ 1048576) : Calls Tryz.prog 119 #[.slice A n c] w fun e w' => e = .returned (.int .i64 (n : Int)) ∧ w = w' := by
  go_enter Tryz.func119, Tryz.ntmps119
  go_wp2
  go_ret
  exact ⟨rfl, rfl⟩

theorem idle1_calls (A : Option Addr) (n c : Nat) (x : Int) (b : Nat) (w : World) (hn : n ≤ 1048576) (hc : w.cell? ⟨b, 0, none⟩ = some (.slice A n c)) :
    Calls Tryz.prog 118 #[.int .i64 x, .pointer (some ⟨b, 0, none⟩)] w fun e w' => e = .returned (.bool (!withinB x 0 ((n : Int) - 1))) ∧ Below w.heap.size w w' := by
  have HS := hide (sizeH_calls A n c w hn)
  have HW := hide (within_calls x 0 ((n : Int) - 1) w)
  go_enter Tryz.func118, Tryz.ntmps118
  go_wp2_with fail
  refine HS.out.mono ?_
  rintro e w' ⟨rfl, rfl⟩
  go_wp2_with fail
  refine HW.out.mono ?_
  rintro e w' ⟨rfl, rfl⟩
  go_wp2
  go_ret
  exact ⟨rfl, Below.refl _ _⟩

set_option maxHeartbeats 4000000 in
set_option maxRecDepth 100000 in
theorem implIdleHelpers_calls (A : Option Addr) (n c : Nat) (hs : List HlpZ) (D : Option Addr) (q e : Nat) (g : List Int) (w : World) (h : RdK kHlp w A n hs) (hD : RdI w D q g) (hv : hlpsB hs = true) (hg : ∀ x ∈ g, 0 ≤ x ∧ x < (n : Int)) (hq : q ≤ 8) :
    Calls Tryz.prog 41 #[.slice A n c, .slice D q e] w fun e w' => ∃ A' n' c', e = .returned (.tuple #[.slice A' n' c', .int .i64 0]) ∧ RdI w' A' n' (idleZ g n) ∧ Below w.heap.size w w' := by
  have hl := hlps_len hv
  rw [h.2.1] at hl
  obtain ⟨w0, hw0⟩ : ∃ w0, w0 = w.alloc (.cells #[.slice A n c] 59) := ⟨_, rfl⟩
  have hb0 : Below w.heap.size w w0 := by rw [hw0]; exact (Below.refl _ _).alloc (Nat.le_refl _) _
  have hz0 : w.heap.size < w0.heap.size := by rw [hw0]; simp
  have hc0 : w0.cell? ⟨w.heap.size, 0, none⟩ = some (.slice A n c) := by rw [hw0]; simp
  have HC : Hid (∀ W, Below w0.heap.size w0 W → W.cell? ⟨w.heap.size, 0, none⟩ = some (.slice A n c)) := fun W hW => (hW.cell (p := ⟨w.heap.size, 0, none⟩) hz0).trans hc0
  have HV := hide (implValidHelpers_calls A n c hs w0 (h.below hb0 (Nat.le_refl _)) (by omega))
  rw [hv] at HV
  have HH := hide (And.intro (h.below hb0 (Nat.le_refl _)) (hD.below hb0 (Nat.le_refl _)))
  have HB0 := hide hb0
  have HG := hide hg
  clear h hD hv hg hb0
  go_enter Tryz.func41, Tryz.ntmps41
  go_wp2_with fail
  rw [← hw0]
  clear hw0
  go_wp2_with fail
  refine HV.out.mono ?_
  rintro e1 w1 ⟨rfl, hb1⟩
  clear hc0
  have hc1 := HC.out w1 hb1
  have HB1 := hide hb1
  have CF := hide (containsFI_none D q e g 118 #[.pointer (some ⟨w.heap.size, 0, none⟩)] w1 (HH.out.2.below hb1 (Nat.le_refl _)) (by omega) Tryz.call118 (fun W x hW hx => by
    have := idle1_calls A n c x w.heap.size W (by omega) (HC.out W (HB1.out.trans (hW.mono HB1.out.size)))
    rw [withinB_iff.2 (show (0 : Int) ≤ x ∧ x ≤ (n : Int) - 1 by have := HG.out x hx; omega)] at this
    exact this))
  clear hb1 HV
  go_wp2_with fail
  refine CF.out.mono ?_
  rintro e2 w2 ⟨rfl, hb2⟩
  have HB2 := hide (HB1.out.trans (hb2.mono HB1.out.size))
  clear hc1 hb2 CF HB1
  have hc2 := HC.out w2 HB2.out
  have HSI := hide (sizeH_calls A n c w2 (by omega))
  go_wp2_with fail
  refine HSI.out.mono ?_
  rintro e2 w' ⟨rfl, rfl⟩
  clear hc2 HSI
  go_wp2_with fail
  go_loopw [6, 7, 21] (fun v _ i wr => ∃ (k r : Nat), k ≤ n ∧ i = .int .i64 k ∧ r ≤ k ∧ wr.ownsRow w2.heap.size 2 1 v r (cI (idleZ g k)) ∧ Hid (Below w2.heap.size w2 wr)) (fun _ _ i _ => n - (intOf i).toNat)
  case atStart => exact ⟨0, 0, Nat.zero_le _, rfl, Nat.le_refl _, by simpa [cI, idleZ] using World.ownsRow_nil w2 w2.heap.size 2 1, Below.refl _ _⟩
  case round =>
    obtain ⟨k, r, hk, rfl, hrk, hown, HB⟩ := hrel
    have HO := hide hown
    clear hown
    by_cases hlt : k < n
    · have hDr := HH.out.2.below (HB2.out.trans (HB.out.mono HB2.out.size)) (Nat.le_refl _)
      have CO := hide (containsI_calls D q e g (k : Int) wr hDr (by omega))
      have hsz := HB.out.size
      clear hDr
      by_cases hkg : (k : Int) ∈ g
      · rw [decide_eq_true hkg] at CO
        have HE := hide (show idleZ g (k + 1) = idleZ g k by rw [idleZ, if_pos hkg])
        clear hkg
        go_wp2_with fail
        refine CO.out.mono ?_
        rintro e2 w' ⟨rfl, rfl⟩
        go_wp2_with fail
        go_roundw
        case rel => exact ⟨k + 1, r, by omega, by go_num, by omega, by rw [HE.out]; exact HO.out, HB⟩
        case measure => simp [intOf]; omega
      · rw [decide_eq_false hkg] at CO
        have HE := hide (show idleZ g (k + 1) = idleZ g k ++ [(k : Int)] by rw [idleZ, if_neg hkg])
        clear hkg
        go_wp2_with fail
        refine CO.out.mono ?_
        rintro e2 w' ⟨rfl, rfl⟩
        go_wp2_with (at_builtin; refine appI rfl _ _ rfl w2.heap.size u6 r (idleZ g k) (k : Int) rfl HO.out rfl (by omega) (by omega) ?_; intro v4 w4 hown4 hb4 hz4)
        go_roundw
        case rel => exact ⟨k + 1, r + 1, by omega, by go_num, by omega, by rw [HE.out]; exact hown4, HB.out.trans hb4⟩
        case measure => simp [intOf]; omega
    · have hkn : k = n := by omega
      subst hkn
      obtain ⟨A9, c9, hv⟩ := own_slice HO.out
      subst hv
      have HR := hide (show RdI wr A9 r (idleZ g k) from RdI.of_own HO.out (fun x hx => by have := idle_bd g k x hx; unfold I64; omega))
      have HW := hide (HB0.out.trans ((HB2.out.trans (HB.out.mono HB2.out.size)).mono HB0.out.size))
      go_wp2
      go_ret2
      exact ⟨A9, r, c9, rfl, HR.out, HW.out⟩

end Go.Proofs.YtcclfmapbgdpdaaGreatDoor
