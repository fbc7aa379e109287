/- AncestorsOf of the program and of the reference. -/
import Derived.Test.YtmpfkmbfbeejhaaDoorCommon
namespace Go.Proofs.YtmpfkmbfbeejhaaDoor
open Go.RowKit
set_option linter.unusedVariables false

/-- What AncestorsOf returns: the code, and the numbers. -/
def ancC (vs : List VerZ) (x : Int) : Int := codeV vs [x]
def ancR (vs : List VerZ) (x : Int) : List Int := if ancC vs x = 0 then (lineV vs x.toNat).tail else []
theorem FrI.mono {w : World} {lo hi lo' hi' : Nat} {e : TypeId} {A : Option Addr} {n : Nat} {xs : List Int} (h : FrI w lo hi e A n xs) (h1 : lo' ≤ lo) (h2 : hi ≤ hi') : FrI w lo' hi' e A n xs := ⟨h.1.mono h1 h2, h.2⟩
theorem tail_mem {α : Type} {l : List α} {x : α} (h : x ∈ l.tail) : x ∈ l := List.mem_of_mem_tail h

theorem RdI.ownSmall {w : World} {base c n : Nat} {A : Option Addr} {vs : List VerZ} {k : Nat} (hh : histB vs = true) (hk : k ≤ 1048576) (h : w.ownsRow base 2 1 (.slice A n c) n (cI (lineV vs k).tail)) :
    FrI w base w.heap.size 2 A n (lineV vs k).tail := FrI.of_own h (fun x hx => line_i64 hh hk x (tail_mem hx))

theorem Fr.tail {w : World} {lo hi b off : Nat} {e : TypeId} {n : Nat} {u : Value} {cs : List Value} (h : Fr w lo hi e 1 (some ⟨b, off, none⟩) (n + 1) (u :: cs)) : Fr w lo hi e 1 (some ⟨b, off + 1, none⟩) n cs := by
  refine ⟨by have := h.1; simp at this ⊢; omega, fun hn => ?_⟩
  obtain ⟨b', off', cur, hA, hl, hh, hc, hr⟩ := h.2 (by omega)
  injection hA with hA
  injection hA with hb ho
  subst hb ho
  refine ⟨b, off + 1, cur, rfl, hl, hh, hc, fun j v hv => ?_⟩
  have := hr (j + 1) v (by simpa using hv)
  rwa [show off + 1 + j = off + (j + 1) by omega]

set_option maxHeartbeats 2000000 in
theorem implAncestorsOf_calls (A : Option Addr) (n c : Nat) (vs : List VerZ) (a : Int) (w : World) (h : RdVz w A n vs) (ha : I64 a) (hn : n ≤ 1048576) (hs : Short vs) :
    Calls Tryd.prog 14 #[.slice A n c, .int .i64 a] w fun e w' => ∃ A' n' c', e = .returned (.tuple #[.slice A' n' c', .int .i64 (ancC vs a)]) ∧ FrI w' w.heap.size w'.heap.size 2 A' n' (ancR vs a) ∧ n' ≤ 1048576 ∧ Below w.heap.size w w' := by
  have HL := hide h.len
  have hlit := World.ownsRow_lit (base := w.heap.size) (e := 2) (size := 1) w #[.int .i64 a] 1 (Nat.le_refl _) (by unfold maxLen; omega) rfl
  have hba : Below w.heap.size w (w.alloc (.cells #[.int .i64 a] 2)) := (Below.refl _ _).alloc (Nat.le_refl _) _
  have hr : RdI (w.alloc (.cells #[.int .i64 a] 2)) (some ⟨w.heap.size, 0, none⟩) 1 [a] := RdI.of_own (by simpa [cI] using hlit) (by
    intro x hx
    simp at hx
    subst hx
    exact ha)
  clear hlit
  have HV := versioned_calls A n c vs (some ⟨w.heap.size, 0, none⟩) 1 1 [a] _ (h.below hba (Nat.le_refl _)) hn hs hr (by omega)
  go_enter Tryd.func14, Tryd.ntmps14
  go_wp2_with fail
  refine HV.mono ?_
  clear HV hr
  rintro e w1 ⟨rfl, hb1⟩
  have hbx := hba.trans (hb1.mono hba.size)
  have HC : Hid (ancC vs a = codeV vs [a]) := rfl
  by_cases h0 : codeV vs [a] = 0
  · have hd : histB vs = true := by
      rcases b_cases (histB vs) with hd | hd
      · rw [codeV_bad hd] at h0; omega
      · exact hd
    have HC0 : Hid (ancC vs a = 0) := h0
    have HX : Hid (codeV vs [a] = 0) := h0
    rw [codeV_one hd, HL.out] at h0
    have h1 : withinB a 1 n = true := by
      rcases b_cases (withinB a 1 n) with h1 | h1 <;> simp [h1] at h0 ⊢
    have q1 := withinB_iff.1 h1
    clear h0 h1
    obtain ⟨a', rfl⟩ : ∃ a' : Nat, a = (a' : Int) := ⟨a.toNat, by omega⟩
    have HR : Hid (ancR vs a' = (lineV vs a').tail) := by unfold Hid ancR; rw [HC0.out, Int.toNat_natCast]; rfl
    have hlen := lineV_len hd a'
    obtain ⟨a'', rfl⟩ : ∃ a'', a' = a'' + 1 := ⟨a' - 1, by omega⟩
    have hst := lineV_step hd a''
    rw [HX.out]
    go_wp2_with fail
    refine (lineOf_calls _ _ _ vs (a'' + 1) _ (h.below hbx (Nat.le_refl _)) hn hd (by omega)).mono ?_
    rintro e w2 ⟨v2, rfl, hown2, hb2⟩
    obtain ⟨A2, c2, rfl⟩ := own_slice hown2
    have hcap := own_cap hown2
    have hF := FrI.of_own hown2 (line_i64 hd (by omega))
    rw [hst] at hF hcap hlen HR
    simp only [List.tail_cons] at HR
    obtain ⟨m, hm⟩ : ∃ m, m = (lineV vs (parN vs (a'' + 1))).length := ⟨_, rfl⟩
    rw [List.length_cons, ← hm] at hF hcap hlen
    obtain ⟨b, off, cur, rfl, _, _, _, _⟩ := hF.1.2 (by omega)
    have hT : FrI w2 w1.heap.size w2.heap.size 2 (some ⟨b, off + 1, none⟩) m (lineV vs (parN vs (a'' + 1))) := ⟨Fr.tail (by simpa [cI] using hF.1), fun x hx => hF.2 x (by simp [hx])⟩
    have HT := hide (hT.mono hbx.size (Nat.le_refl _))
    have hls : (lineV vs (a'' + 1)).length = m + 1 := by rw [hst, List.length_cons, hm]
    have HM := hide hm
    have hby := hide (hbx.trans (hb2.mono hbx.size))
    clear hown2 hF hT hm hst
    rw [hls]
    clear hls
    have i1 : (1 : Int) ≤ (m : Int) + 1 := by omega
    have i2 : (m : Int) + 1 ≤ (c2 : Int) := by omega
    by_cases hc1 : c2 = 1
    · subst hc1
      have hm0 : m = 0 := by omega
      subst hm0
      have hnil : lineV vs (parN vs (a'' + 1)) = [] := List.eq_nil_of_length_eq_zero HM.out.symm
      rw [hnil] at HR
      clear hnil
      go_wp2
      go_ret2
      refine ⟨_, _, _, ret_two rfl (congrArg (Value.int .i64) HC0.out.symm), ?_, by omega, hby.out⟩
      rw [HR.out]
      exact FrI.nil
    · have hm6 : m ≤ 1048576 := by omega
      go_wp2
      go_ret2
      refine ⟨_, _, _, ret_two rfl (congrArg (Value.int .i64) HC0.out.symm), ?_, hm6, hby.out⟩
      rw [HR.out]
      exact HT.out
  · have HR : Hid (ancR vs a = []) := by unfold Hid ancR ancC; rw [if_neg h0]
    have e0 : (codeV vs [a] != 0) = true := by simpa using h0
    clear h0
    go_wp2
    go_ret2
    refine ⟨none, 0, 0, ret_two rfl rfl, ?_, by omega, hbx⟩
    rw [HR.out]
    exact FrI.nil
end Go.Proofs.YtmpfkmbfbeejhaaDoor
