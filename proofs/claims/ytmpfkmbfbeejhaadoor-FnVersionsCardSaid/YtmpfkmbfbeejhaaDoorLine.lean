/- The line of versions from which a version comes, of the program and of the reference. -/
import Derived.Test.YtmpfkmbfbeejhaaDoorValidHist
import Derived.Test.YtmpfkmbfbeejhaaDoorLineZ
import Derived.Test.YtmpfkmbfbeejhaaDoorHasI
namespace Go.Proofs.YtmpfkmbfbeejhaaDoor
open Go.RowKit
set_option linter.unusedVariables false

set_option maxHeartbeats 2000000 in
theorem lineOf_calls (A : Option Addr) (n c : Nat) (vs : List VerZ) (k0 : Nat) (w : World) (h : RdVz w A n vs) (hn : n ≤ 1048576) (hh : histB vs = true) (hk0 : k0 ≤ n) :
    Calls Tryd.prog 41 #[.slice A n c, .int .i64 k0] w fun e w' => ∃ v', e = .returned v' ∧ w'.ownsRow w.heap.size 2 1 v' (lineV vs k0).length (cI (lineV vs k0)) ∧ Below w.heap.size w w' := by
  obtain ⟨rs, h, rfl⟩ := h
  have h32 : n ≤ 32 := by have := hist_len hh; rw [zV_len, h.2.1] at this; exact this
  have HH := hide hh
  clear hh
  have hown0 := World.ownsRow_nil w w.heap.size 2 1
  go_enter Tryd.func41, Tryd.ntmps41
  go_wp2
  go_loopw [1, 5] (fun i v wr => ∃ (k m : Nat) (xs : List Int), k ≤ n ∧ i = .int .i64 k ∧ Hid (xs ++ lineV (zV rs) k = lineV (zV rs) k0 ∧ xs.length = m) ∧ m + k ≤ k0 ∧ wr.ownsRow w.heap.size 2 1 v m (cI xs) ∧ Below w.heap.size w wr) (fun i _ _ => (intOf i).toNat)
  case atStart => exact ⟨k0, 0, [], hk0, rfl, ⟨rfl, rfl⟩, by omega, hown0, Below.refl _ _⟩
  case round =>
    clear hown0
    obtain ⟨k, m, xs, hk, rfl, HX, hmk, hown, hb⟩ := hrel
    have HO := hide hown
    clear hown
    by_cases hlt : 0 < k
    · obtain ⟨k', rfl⟩ : ∃ k', k = k' + 1 := ⟨k - 1, by omega⟩
      obtain ⟨b, off, nu, pa, me, Aq, nq, cq, st, rfl, hbl, hx, hc, hc2, hc3, hc4, hn1, hn2, hp1, hp2, hme, hst, hnq⟩ := h.at (k := k') (by omega)
      have hpar := par_at HH.out (zV_at hx.out)
      have hplt := par_lt HH.out k'
      simp only [VerC.z] at hpar
      subst hpar
      have hi1 : (k' : Int) + 1 - 1 = (k' : Int) := by omega
      have hi2 : (0 : Int) ≤ (k' : Int) := by omega
      have hi3 : (k' : Int) < (n : Int) := by omega
      have hsz := hb.size
      have HS := hide (lineV_step HH.out k')
      clear hc hc3 hc4
      go_wp2_with (at_builtin; refine appI rfl _ _ rfl w.heap.size u5 m xs ((k' : Int) + 1) rfl HO.out rfl (by omega) (by omega) ?_; intro v' w4 hown4 hb4 hz4; have hcx := ((hb.trans hb4).cell hbl).trans hc2)
      go_roundw
      case rel =>
        refine ⟨parN (zV rs) (k' + 1), m + 1, xs ++ [(k' : Int) + 1], by omega, rfl, ⟨?_, by simp [HX.out.2]⟩, by omega, hown4, hb.trans hb4⟩
        rw [← HX.out.1, HS.out, List.append_assoc]
        rfl
      case measure => simp [intOf]; omega
    · have hk' : k = 0 := by omega
      subst hk'
      go_wp2
      go_ret
      have h1 := HX.out.1
      rw [lineV_zero, List.append_nil] at h1
      rw [← h1, HX.out.2]
      exact ⟨_, rfl, HO.out, hb⟩

end Go.Proofs.YtmpfkmbfbeejhaaDoor
