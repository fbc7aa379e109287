/- TopDays of the program. -/
import Derived.Test.YtmpfkmbfbeejhaaTopI
namespace Go.Proofs.Ytmpfkmbfbeejhaa
open Go.RowKit
set_option linter.unusedVariables false

set_option maxRecDepth 100000 in
set_option maxHeartbeats 4000000 in
theorem implTopDays_calls (A : Option Addr) (n c : Nat) (xs : List Int) (f : Int) (w : World) (h : RdI w A n xs) (hf : I64 f) (hn : n ≤ 1048576) :
    Calls Try.prog 8 #[.slice A n c, .int .i64 f] w fun e w' => ∃ A' n' c', e = .returned (.tuple #[.slice A' n' c', .int .i64 (topC xs f)]) ∧ FrI w' w.heap.size w'.heap.size 2 A' n' (topV xs f) ∧ n' ≤ 1048576 ∧ Below w.heap.size w w' := by
  have HL := hide h.len
  have HF := hide hf
  obtain ⟨fb, hfb⟩ : ∃ fb, fb = withinB f 0 n := ⟨_, rfl⟩
  obtain ⟨K, hK⟩ : ∃ K, K = keptC xs fb := ⟨_, rfl⟩
  have HC : Hid (topC xs f = K) := by unfold Hid topC; rw [HL.out, ← hfb, hK]
  obtain ⟨w1, hw1⟩ : ∃ w1, w1 = w.alloc (.cells #[.slice A n c] 22) := ⟨_, rfl⟩
  have hB1 : Below w.heap.size w w1 := by rw [hw1]; exact (Below.refl _ _).alloc (Nat.le_refl _) _
  have hz1 : w1.heap.size = w.heap.size + 1 := by rw [hw1]; simp
  have hc1 : w1.cell? ⟨w.heap.size, 0, none⟩ = some (.slice A n c) := by rw [hw1]; simp
  have h1 : RdI w1 A n xs := h.below hB1 (Nat.le_refl _)
  have HCL := hide (fun W (hW : Below w1.heap.size w1 W) => (⟨h1.below hW (Nat.le_refl _), (hW.cell (p := ⟨w.heap.size, 0, none⟩) (by show w.heap.size < w1.heap.size; omega)).trans hc1⟩ : RdI W A n xs ∧ W.cell? ⟨w.heap.size, 0, none⟩ = some (.slice A n c)))
  have HS := hide fun (m : Nat) => Calls.quiet_of_same ((sizeI_calls A n c (w1.drewN m) hn).mono fun _ _ hh => ⟨hh.1, hh.2.symm⟩)
  have HW := hide fun (m : Nat) => Calls.quiet_of_same ((within_calls f 0 n (w1.drewN m)).mono fun _ _ hh => ⟨hh.1, hh.2.symm⟩)
  have HKP := hide fun (m : Nat) => Calls.quiet_of_same ((kept_calls A n c xs fb (w1.drewN m) (h1.drewN m) hn).mono fun _ _ hh => ⟨hh.1, hh.2.symm⟩)
  rw [← hfb] at HW
  rw [← hK] at HKP
  have HB1 := hide hB1
  have HFB := hide hfb
  have HKK := hide hK
  have HZ1 := hide hz1
  clear hB1 hfb hK h1 h hf hz1
  go_enter Try.func8, Try.ntmps8
  go_wp2
  rw [← hw1]
  clear hw1
  go_quiet (first | (go_at_call 45; exact HS.out _) | (go_at_call 44; exact HW.out _) | (go_at_call 43; exact HKP.out _))
  clear HS HW HKP
  obtain ⟨w2, hw2⟩ : ∃ w2, w2 = w1.drewN nq := ⟨_, rfl⟩
  have HB2 : Hid (Below w.heap.size w w2) := by unfold Hid; rw [hw2]; exact below_drewN HB1.out _
  have HZ2 : Hid (w2.heap.size = w.heap.size + 1) := by unfold Hid; rw [hw2]; exact HZ1.out
  have HC2 : Hid (∀ W, Below w2.heap.size w2 W → RdI W A n xs ∧ W.cell? ⟨w.heap.size, 0, none⟩ = some (.slice A n c)) := by
    intro W hW
    refine HCL.out W ?_
    have e : w2.heap.size = w1.heap.size := by rw [hw2]; rfl
    rw [e] at hW
    exact (below_drewN (Below.refl _ w1) nq).trans (by rw [← hw2]; exact hW)
  have hcb : w2.cell? ⟨w.heap.size, 0, none⟩ = some (.slice A n c) := (HC2.out _ (Below.refl _ _)).2
  rw [← hw2]
  clear hw2 hc1 HCL HB1 HZ1
  by_cases hk : K = 0
  case neg =>
    have HK := hide hk
    go_wp2
    go_ret2
    refine ⟨none, 0, 0, ret_two rfl (congrArg (Value.int .i64) HC.out.symm), ?_, by omega, HB2.out⟩
    rw [topV_bad (by rw [HC.out]; exact HK.out)]
    exact FrI.nil
  subst hk
  obtain ⟨hok, hwi⟩ : okSer xs = true ∧ withinB f 0 n = true := by
    rcases kept_cases xs fb with ⟨_, h3⟩ | ⟨_, _, h3⟩ | ⟨h1, h2, _⟩
    · have := HKK.out; omega
    · have := HKK.out; omega
    · exact ⟨h1, by rw [← HFB.out]; exact h2⟩
  obtain ⟨h1, h60⟩ := ok_len hok
  have hI := hide (fun k => topZ_i64 (k := k) h60)
  rw [HL.out] at h1 h60
  obtain ⟨f1, f2⟩ := withinB_iff.1 hwi
  obtain ⟨F, rfl⟩ : ∃ F : Nat, f = F := ⟨f.toNat, by omega⟩
  have hFn : F ≤ n := by omega
  have HV := hide (topV_ok HC.out)
  rw [Int.toNat_natCast] at HV
  have HOK := hide hok
  clear hok hwi f1 f2
  go_wp2_with fail
  refine (sizeI_calls A n c _ hn).mono ?_
  rintro e w' ⟨rfl, rfl⟩
  go_wp2_with fail
  go_loopw [7, 8, 20] (fun v _ i wr => ∃ k : Nat, k ≤ n ∧ i = .int .i64 k ∧ wr.ownsRow w2.heap.size 2 1 v k (cI (dayL k)) ∧ Below w2.heap.size w2 wr) (fun _ _ i _ => n - (intOf i).toNat)
  case atStart => exact ⟨0, by omega, rfl, by simpa [cI, dayL] using World.ownsRow_nil w2 w2.heap.size 2 1, Below.refl _ _⟩
  case round =>
    obtain ⟨k, hk, rfl, hown, hb⟩ := hrel
    have HO := hide hown
    clear hown hcb
    have hbs := hb.size
    by_cases hlt : k < n
    · have HE := hide (dayL_succ k)
      go_wp2_with (at_builtin; refine appI rfl _ _ rfl w2.heap.size u7 k (dayL k) k rfl HO.out rfl (by omega) (by omega) ?_; intro v4 w4 hown4 hb4 hz4)
      go_roundw
      case rel => exact ⟨k + 1, by omega, by go_num, by rw [HE.out]; exact hown4, hb.trans hb4⟩
      case measure => simp [intOf]; omega
    have hkn : k = n := by omega
    subst hkn
    obtain ⟨g, co, rfl⟩ := own_addr HO.out h1
    have hco : k ≤ co := by
      rcases HO.out.2 with ⟨e0, _⟩ | ⟨g', cap', cur, e0, _, _, hn', _⟩
      · cases e0
      · injection e0 with _ _ e3; omega
    have SD := hide (sortDays_calls A k c w.heap.size g co w2.heap.size xs wr HL.out h1 (by omega) (fun W hW => HC2.out W (hb.trans hW)) hbs HO.out)
    go_wp2_with fail
    refine SD.out.mono ?_
    rintro e w3 ⟨rfl, hown3, hb3⟩
    have hto := row_take hown3 hFn
    rw [show (cI (dayO xs)).take F = cI ((dayO xs).take F) by unfold cI; rw [List.map_take]] at hto
    have hb23 := hb.trans hb3
    have SO := hide (sortRow_calls g F co w2.heap.size ((dayO xs).take F) w3 hto (by omega) hb23.size)
    have HB3 := hide hb23
    clear SD hown3 hb3 hto hb23
    have j1 : (0 : Int) ≤ (F : Int) := by omega
    have j2 : (F : Int) ≤ (co : Int) := by omega
    go_wp2_with fail
    refine SO.out.mono ?_
    rintro e w4 ⟨rfl, hown4, hb4⟩
    have HO4 := hide hown4
    have HB4 := hide (HB3.out.trans hb4)
    clear hown4 hb4 SO
    go_wp2
    go_ret2
    have hz : w.heap.size ≤ w2.heap.size := by rw [HZ2.out]; omega
    refine ⟨some ⟨g, 0, none⟩, F, co, ret_two rfl (congrArg (Value.int .i64) HC.out.symm), ?_, by omega, HB2.out.trans (HB4.out.mono hz)⟩
    rw [HV.out]
    exact FrI.of_own (own_mono2 HO4.out hz) (hI.out F)

end Go.Proofs.Ytmpfkmbfbeejhaa
