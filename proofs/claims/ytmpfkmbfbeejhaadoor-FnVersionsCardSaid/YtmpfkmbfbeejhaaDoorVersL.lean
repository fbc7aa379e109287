/- Plain: the laws of versions that FnVersions asks. -/
import Derived.Test.YtmpfkmbfbeejhaaDoorHisL
import Derived.Test.YtmpfkmbfbeejhaaDoorAppL
import Derived.Test.YtmpfkmbfbeejhaaDoorUndo
import Derived.Test.YtmpfkmbfbeejhaaDoorVerT
import Derived.Test.YtmpfkmbfbeejhaaDoorMg
import Derived.Test.YtmpfkmbfbeejhaaDoorAncestors
namespace Go.Proofs.YtmpfkmbfbeejhaaDoor
open Go.RowKit
set_option linter.unusedVariables false

def nextM : ByteArray := ⟨#[110, 101, 120, 116]⟩
theorem nextM_ok : memoB nextM = true := by decide +kernel
theorem diff_law {a b : List SetZ} (h1 : stateB a = true) (h2 : stateB b = true) : difC a b = 0 ∧ apC a (difR a b) = 0 ∧ apV a (difR a b) = b :=
  ⟨(dif_ok h1 h2).1, (app_diff h1 h2).1, (app_diff h1 h2).2⟩
theorem size_pos_app (a b : ByteArray) : a.size ≤ (a ++ b).size := by rw [ByteArray.size_append]; omega
theorem parts_size (ss : List SetZ) : ∀ h : ByteArray, h.size ≤ (partsZ h ss).size := by
  induction ss with
  | nil => intro h; exact Nat.le_refl _
  | cons s r ih =>
    intro h
    exact Nat.le_trans (size_pos_app h (partZ s)) (ih (h ++ partZ s))
theorem verT_pos {v : VerZ} (h : verB v = true) : 0 < (verT v).size := by
  unfold verT
  rw [if_pos h]
  have h1 := parts_size v.state (headZ v.number v.parent)
  have h2 := size_pos_app (partsZ (headZ v.number v.parent) v.state) (memZ v.memo)
  have h3 : 1 ≤ (headZ v.number v.parent).size := by
    unfold headZ
    rw [ByteArray.size_append, ByteArray.size_append]
    have : (⟨#[60]⟩ : ByteArray).size = 1 := rfl
    omega
  omega
/-- A version is committed, and undone. -/
theorem vers_law {vs : List VerZ} {sa : List SetZ} {n p : Nat} (h : histB vs = true) (hl : vs.length = n) (h5 : n ≤ 5) (hp : p ≤ n) (hs : stateB sa = true) :
    ∃ ws : List VerZ, csC vs p nextM sa = 0 ∧ csR vs p nextM sa = ws ∧ ws.length = n + 1 ∧ histB ws = true ∧ ws[n]? = some ⟨(n : Int) + 1, p, nextM, sa⟩ ∧
      (∃ us : List VerZ, undC ws ((n + 1 : Nat) : Int) = 0 ∧ undR ws ((n + 1 : Nat) : Int) = us ∧ us.length = n + 2 ∧ histB us = true ∧ ∃ u : VerZ, us[n + 1]? = some u ∧ u.state = stV vs p) ∧
      (∃ up : List Int, ancC ws ((n + 1 : Nat) : Int) = 0 ∧ ancR ws ((n + 1 : Nat) : Int) = up ∧ up.Pairwise (fun a b => b < a) ∧ (∀ x ∈ up, 1 ≤ x ∧ x < ((n + 1 : Nat) : Int)) ∧ decide ((p : Int) ∈ up) = decide (0 < p)) ∧
      heaC ws = 0 ∧ ((n + 1 : Nat) : Int) ∈ heaR ws ∧ comC ws ((n + 1 : Nat) : Int) ((n + 1 : Nat) : Int) = 0 ∧ comR ws ((n + 1 : Nat) : Int) ((n + 1 : Nat) : Int) = ((n + 1 : Nat) : Int) ∧ 0 < (verT ⟨(n : Int) + 1, p, nextM, sa⟩).size := by
  have hw : withinB (p : Int) 0 vs.length = true := withinB_iff.2 ⟨by omega, by omega⟩
  have hadd : addC vs = 0 ∧ addR vs p nextM sa = vs ++ [⟨(vs.length : Int) + 1, p, nextM, sa⟩] := by unfold addC addR; rw [if_neg (by omega), if_neg (by omega)]; exact ⟨rfl, rfl⟩
  have hws := hist_add h hw nextM_ok hs (by omega)
  rw [hl] at hws
  have hc : csC vs p nextM sa = 0 ∧ csR vs p nextM sa = vs ++ [⟨(n : Int) + 1, p, nextM, sa⟩] := by
    unfold csC csR
    rw [h, nextM_ok, hs]
    simp only [Bool.and_self, if_true]
    rw [hw]
    simp only [if_true]
    rw [hadd.1, hadd.2, hl]
    exact ⟨rfl, rfl⟩
  obtain ⟨ws, hws0⟩ : ∃ ws, ws = vs ++ [(⟨(n : Int) + 1, p, nextM, sa⟩ : VerZ)] := ⟨_, rfl⟩
  have hwl : ws.length = n + 1 := by rw [hws0, List.length_append, hl]; rfl
  have hwn : ws[n]? = some ⟨(n : Int) + 1, p, nextM, sa⟩ := by rw [hws0, ← hl, List.getElem?_append_right (Nat.le_refl _), Nat.sub_self]; rfl
  rw [← hws0] at hws hc
  have hpar : parN ws (n + 1) = p := by
    have := par_new (vs := vs) (v := ⟨(n : Int) + 1, p, nextM, sa⟩)
    rw [hl, ← hws0] at this
    rw [this]
    exact Int.toNat_natCast p
  have hline : lineV ws (n + 1) = ((n + 1 : Nat) : Int) :: lineV ws p := by
    have := line_new (vs := vs) (v := ⟨(n : Int) + 1, p, nextM, sa⟩) (by rw [← hws0]; exact hws)
    rw [hl, ← hws0] at this
    rw [this]
    simp only [Int.toNat_natCast]
  have hst : stV ws p = stV vs p := by
    unfold stV
    by_cases hp0 : p = 0
    · rw [if_pos hp0, if_pos hp0]
    · rw [if_neg hp0, if_neg hp0, hws0, List.getElem?_append_left (by omega)]
  have hin : withinB ((n + 1 : Nat) : Int) 1 ws.length = true := withinB_iff.2 ⟨by omega, by omega⟩
  refine ⟨ws, hc.1, hc.2, hwl, hws, hwn, ?_, ?_, ?_, ?_, ?_, ?_, ?_⟩
  · have hu1 : addC ws = 0 ∧ addR ws ((n + 1 : Nat) : Int) (undM ((n + 1 : Nat) : Int)) (stV vs p) = ws ++ [⟨(ws.length : Int) + 1, ((n + 1 : Nat) : Int), undM ((n + 1 : Nat) : Int), stV vs p⟩] := by unfold addC addR; rw [if_neg (by omega), if_neg (by omega)]; exact ⟨rfl, rfl⟩
    have hu : undC ws ((n + 1 : Nat) : Int) = 0 ∧ undR ws ((n + 1 : Nat) : Int) = ws ++ [⟨(ws.length : Int) + 1, ((n + 1 : Nat) : Int), undM ((n + 1 : Nat) : Int), stV vs p⟩] := by
      unfold undC undR
      rw [hws, hin]
      simp only [if_true]
      rw [Int.toNat_natCast, hpar, hst]
      exact hu1
    have hm : memoB (undM ((n + 1 : Nat) : Int)) = true := by
      rcases (show n = 0 ∨ n = 1 ∨ n = 2 ∨ n = 3 ∨ n = 4 ∨ n = 5 by omega) with rfl | rfl | rfl | rfl | rfl | rfl <;> decide +kernel
    refine ⟨_, hu.1, hu.2, by rw [List.length_append, hwl]; rfl, hist_add hws (withinB_iff.2 ⟨by omega, by omega⟩) hm (stV_valid h p) (by omega), ⟨(ws.length : Int) + 1, ((n + 1 : Nat) : Int), undM ((n + 1 : Nat) : Int), stV vs p⟩, ?_, rfl⟩
    rw [← hwl, List.getElem?_append_right (Nat.le_refl _), Nat.sub_self]
    rfl
  · have hc1 : ancC ws ((n + 1 : Nat) : Int) = 0 := by
      unfold ancC codeV
      rw [hws, if_pos rfl, if_neg]
      unfold offB
      simp only [List.any_cons, List.any_nil, hin]
      decide
    refine ⟨lineV ws p, hc1, ?_, lineV_desc hws p, fun x hx => ?_, ?_⟩
    · unfold ancR
      rw [if_pos hc1, Int.toNat_natCast, hline]
      rfl
    · have := lineV_mem hws p x hx
      omega
    · rw [decide_eq_decide]
      constructor
      · intro hm
        have := lineV_mem hws p _ hm
        omega
      · intro hp0
        exact line_head hws hp0
  · unfold heaC; rw [codeV_none, hws]; rfl
  · have : heaC ws = 0 := by unfold heaC; rw [codeV_none, hws]; rfl
    unfold heaR
    rw [if_pos this, hwl]
    exact head_new hws hwl (by omega)
  · unfold comC; rw [codeV_two hws, hin]; rfl
  · have c1 : comC ws ((n + 1 : Nat) : Int) ((n + 1 : Nat) : Int) = 0 := by unfold comC; rw [codeV_two hws, hin]; rfl
    unfold comR
    rw [if_pos c1, Int.toNat_natCast]
    exact com_self hws (by omega)
  · refine verT_pos ?_
    unfold verB
    simp only
    rw [nextM_ok, hs, withinB_iff.2 (⟨by omega, by omega⟩ : (1 : Int) ≤ (n : Int) + 1 ∧ (n : Int) + 1 ≤ 32), withinB_iff.2 (⟨by omega, by omega⟩ : (0 : Int) ≤ (p : Int) ∧ (p : Int) ≤ (n : Int) + 1 - 1)]
    rfl

end Go.Proofs.YtmpfkmbfbeejhaaDoor
