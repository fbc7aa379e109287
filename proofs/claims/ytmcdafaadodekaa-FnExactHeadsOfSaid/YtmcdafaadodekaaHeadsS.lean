/- HeadsOf of the reference. -/
import Derived.Test.YtmcdafaadodekaaHeads
namespace Go.Proofs.Ytmcdafaadodekaa
open Go.RowKit
set_option linter.unusedVariables false

/-- No version among the first k has x as its parent. -/
def headTo (vs : List VerZ) (x : Int) (k : Nat) : Bool := !(vs.take k).any (fun v => decide (v.parent = x))
theorem headTo_zero (vs : List VerZ) (x : Int) : headTo vs x 0 = true := by simp [headTo]
theorem headTo_step {vs : List VerZ} {x : Int} {k : Nat} {v : VerZ} (h : vs[k]? = some v) : headTo vs x (k + 1) = (headTo vs x k && !decide (v.parent = x)) := by
  unfold headTo; rw [take_snoc h]; simp
theorem headTo_end {vs : List VerZ} {x : Int} {n : Nat} (h : vs.length = n) : headTo vs x n = headB vs x := by
  unfold headTo headB; rw [List.take_of_length_le (by omega)]

set_option maxHeartbeats 4000000 in
theorem specHeadsOf_calls (A : Option Addr) (n c : Nat) (vs : List VerZ) (w : World) (h : RdVz w A n vs) (hn : n ≤ 1048576) (hs : Short vs) :
    Calls Try.prog 35 #[.slice A n c] w fun e w' => ∃ A' n' c', e = .returned (.tuple #[.slice A' n' c', .int .i64 (heaC vs)]) ∧ FrI w' w.heap.size w'.heap.size 2 A' n' (heaR vs) ∧ n' ≤ 1048576 ∧ Below w.heap.size w w' := by
  rcases b_cases (histB vs) with hd | hd
  · have HC := hide (heaC_bad hd)
    have HR := hide (heaR_bad hd)
    go_enter Try.func35, Try.ntmps35
    go_wp2_with (go_at_call 72; refine (l27Ok_calls _ _ _ _ _ h hn hs).mono ?_; rw [hd]; rintro e w1 ⟨rfl, hb1⟩)
    go_ret2
    refine ⟨none, 0, 0, ret_two rfl (congrArg (Value.int .i64) HC.out.symm), ?_, by omega, hb1⟩
    rw [HR.out]
    exact FrI.nil
  have HC := hide (heaC_ok hd)
  have HR := hide (heaR_ok h.len hd)
  have HL := hide h.len
  have h32 := hist_len hd
  rw [HL.out] at h32
  have HH := hide (heads_i64 hd)
  have HOK := hide (l27Ok_calls A n c vs w h hn hs)
  rw [hd] at HOK
  obtain ⟨rs, h, rfl⟩ := h
  clear hd
  go_enter Try.func35, Try.ntmps35
  go_wp2_with fail
  refine HOK.out.mono ?_
  clear HOK
  rintro e w1 ⟨rfl, hb1⟩
  have hown0 := World.ownsRow_lit (base := w.heap.size) (e := 2) (size := 1) w1 #[] 0 hb1.size (by simp) rfl
  have hba := hb1.trans ((Below.refl w1.heap.size w1).alloc (Nat.le_refl _) (.cells #[] 2) |>.mono hb1.size)
  go_wp2
  go_loopw [4, 5, 6, 7] (fun v i hd kk wr => ∃ (k m : Nat), k ≤ n ∧ i = .int .i64 k ∧ Hid (m = (headsK (zV rs) k).length) ∧ m ≤ k ∧ wr.ownsRow w.heap.size 2 1 v m (cI (headsK (zV rs) k)) ∧ Below w.heap.size w wr) (fun _ i _ _ _ => n - (intOf i).toNat)
  case atStart => exact ⟨0, 0, Nat.zero_le _, rfl, rfl, by omega, by simpa [cI, headsK] using hown0, hba⟩
  case round =>
    clear hown0 hba
    obtain ⟨k, m, hk, rfl, HM, hmk, hown, hb⟩ := hrel
    have HO := hide hown
    clear hown
    obtain ⟨wo, rfl⟩ : ∃ wo : World, wo = wr := ⟨_, rfl⟩
    by_cases hlt : k < n
    · obtain ⟨b, off, nu, pa, me, Aq, nq, cq, st, rfl, hbl, hx, hc, hc2, hc3, hc4, hn1, hn2, hp1, hp2, hme, hst, hnq⟩ := (h.below hb (Nat.le_refl _)).at hlt
      have hz := hide (zV_at hx.out)
      go_wp2
      go_loopw [6, 7] (fun hd kk wr => ∃ (k2 : Nat) (q : Bool), k2 ≤ n ∧ kk = .int .i64 k2 ∧ hd = .bool q ∧ Hid (q = headTo (zV rs) nu k2) ∧ ∃ d, wr = wo.drewN d) (fun _ kk _ => n - (intOf kk).toNat)
      case atStart => exact ⟨0, true, Nat.zero_le _, rfl, rfl, (headTo_zero _ _).symm, 0, rfl⟩
      case round =>
        obtain ⟨k2, q, hk2, rfl, rfl, HQ, d, rfl⟩ := hrel
        by_cases hlt2 : k2 < n
        · obtain ⟨b', off', nu', pa', me', Aq', nq', cq', st', hA, hbl', hx', hc', hc2', hc3', hc4', hn1', hn2', hp1', hp2', hme', hst', hnq'⟩ := (h.below hb (Nat.le_refl _)).at hlt2
          obtain ⟨rfl, rfl⟩ : b = b' ∧ off = off' := by injection hA with hA; injection hA; exact ⟨‹_›, ‹_›⟩
          clear hA
          have hz' := hide (zV_at hx'.out)
          have HS := hide (headTo_step (x := nu) hz'.out)
          rcases b_cases q with rfl | rfl
          · have HN : Hid (false = headTo (zV rs) nu (k2 + 1)) := by unfold Hid; rw [HS.out, ← HQ.out]; rfl
            go_wp2
            go_quiet (fail)
            go_wp2
            go_roundw
            case rel => exact ⟨k2 + 1, false, by omega, by go_num, rfl, HN, (by first | exact ⟨_, rfl⟩ | exact drewN2 _ _ _)⟩
            case measure => simp [intOf]; omega
          · by_cases c1 : pa' = nu
            · subst c1
              have HN : Hid (false = headTo (zV rs) pa' (k2 + 1)) := by unfold Hid; rw [HS.out, ← HQ.out]; simp [VerC.z]
              go_wp2
              go_quiet (fail)
              go_wp2
              go_roundw
              case rel => exact ⟨k2 + 1, false, by omega, by go_num, (by simp), HN, (by first | exact ⟨_, rfl⟩ | exact drewN2 _ _ _)⟩
              case measure => simp [intOf]; omega
            · have HN : Hid (true = headTo (zV rs) nu (k2 + 1)) := by unfold Hid; rw [HS.out, ← HQ.out]; simp [VerC.z, c1]
              have e1 : (pa' == nu) = false := by simpa using c1
              have e2 : (pa' != nu) = true := by simpa using c1
              clear c1
              go_wp2
              go_quiet (fail)
              go_wp2
              go_roundw
              case rel => exact ⟨k2 + 1, true, by omega, by go_num, (by simp), HN, (by first | exact ⟨_, rfl⟩ | exact drewN2 _ _ _)⟩
              case measure => simp [intOf]; omega
        · have hkn : k2 = n := by omega
          have HE : Hid (q = headB (zV rs) nu) := by unfold Hid; rw [HQ.out, hkn]; exact headTo_end HL.out
          clear HQ
          subst hkn
          have ho2 := hide (own_drewN HO.out d)
          have hbx := below_drewN hb d
          have hsz := hbx.size
          rcases b_cases q with rfl | rfl
          · have HN := hide (headsK_no hz.out HE.out.symm)
            go_wp2
            go_roundw
            case rel => exact ⟨k + 1, m, by omega, by go_num, by unfold Hid; rw [HN.out]; exact HM.out, by omega, by rw [HN.out]; exact ho2.out, hbx⟩
            case measure => simp [intOf]; omega
          · have HN := hide (headsK_yes hz.out HE.out.symm)
            go_wp2_with (at_builtin; refine appI rfl _ _ rfl w.heap.size u4 m (headsK (zV rs) k) nu rfl ho2.out rfl (by omega) (by omega) ?_; intro v' w4 hown4 hb4 hz4)
            go_roundw
            case rel => exact ⟨k + 1, m + 1, by omega, by go_num, by unfold Hid; rw [HN.out, List.length_append, ← HM.out]; rfl, by omega, by rw [HN.out]; exact hown4, hbx.trans hb4⟩
            case measure => simp [intOf]; omega
    · have hkn : k = n := by omega
      subst hkn
      have hm6 : m ≤ 1048576 := by omega
      obtain ⟨A2, c2, rfl⟩ := own_slice HO.out
      go_wp2
      go_ret2
      refine ⟨_, _, _, ret_two rfl (congrArg (Value.int .i64) HC.out.symm), ?_, hm6, hb⟩
      rw [HR.out]
      exact FrI.of_own HO.out (HH.out k)

end Go.Proofs.Ytmcdafaadodekaa
