/- Plain: a helper, a task that is written is read back. -/
import Derived.Test.YtcclfmapbgdpdaaGreatDoorHelX
import Derived.Test.YtcclfmapbgdpdaaGreatDoorDecL
namespace Go.Proofs.YtcclfmapbgdpdaaGreatDoor
open Go.RowKit
set_option linter.unusedVariables false

theorem name_no {s : ByteArray} (h : nameB s = true) : (32 : UInt8) ∉ bs s := by
  intro hm
  unfold nameB at h
  simp only [Bool.and_eq_true] at h
  have := List.all_eq_true.1 h.2 _ hm
  exact absurd this (by decide)
theorem name_size {s : ByteArray} (h : nameB s = true) : 1 ≤ s.size ∧ s.size ≤ 10 := by
  unfold nameB at h
  simp only [Bool.and_eq_true, decide_eq_true_eq] at h
  exact ⟨h.1.1.1, h.1.1.2⟩
theorem skT_facts {s : Nat} (h : s ≤ 7) : (32 : UInt8) ∉ bs (skT s) ∧ skB (skT s) = true ∧ skV (skT s) = (s : Int) := by
  rcases nat8 h with rfl | rfl | rfl | rfl | rfl | rfl | rfl | rfl <;> exact ⟨by decide +kernel, by decide +kernel, by decide +kernel⟩
theorem map_bs_back {xs : List ByteArray} {ys : List (List UInt8)} (h : xs.map bs = ys) : xs = ys.map fun l => ⟨l.toArray⟩ := by
  subst h
  rw [List.map_map]
  conv => lhs; rw [← List.map_id xs]
  exact List.map_congr_left fun x _ => (arr_bs x).symm
theorem bs_hlpP (x : HlpZ) : bs (hlpP x) = bs x.id ++ 32 :: (bs (skT x.sk.toNat) ++ 32 :: Lib.itoa x.n) := by
  unfold hlpP
  simp only [bs_app, bs_decZ]
  simp [bs]
/-- What is written is read back. -/
theorem hlp_back {x : HlpZ} (h : hlpB x = true) : hrC (hlpT x) = true ∧ hrV (hlpT x) = x ∧ (hlpT x).size ≤ 1000 ∧ 1 ≤ (hlpT x).size := by
  have ht : hlpT x = hlpP x := by unfold hlpT; rw [if_pos h]
  have h' := h
  unfold hlpB at h'
  simp only [Bool.and_eq_true] at h'
  have hsk := withinB_iff.1 h'.2.1
  have hn := withinB_iff.1 h'.2.2
  have hnm := name_no h'.1
  have hsz := name_size h'.1
  obtain ⟨f1, f2, f3⟩ := skT_facts (s := x.sk.toNat) (by omega)
  have f4 := skT_size x.sk.toNat
  have hi := num_itoa (x := x.n) (by omega) (by omega)
  have hil := itoa_len (n := x.n) (by unfold I64; omega)
  have hm : (splitS 32 (hlpP x)).map bs = [bs x.id, bs (skT x.sk.toNat), Lib.itoa x.n] := by
    rw [split_bs, bs_hlpP, splitL_mid, splitL_mid, splitL_none hnm, splitL_none f1, splitL_none (itoa_no _)]
    rfl
  have hs := map_bs_back hm
  simp only [List.map_cons, List.map_nil, arr_bs] at hs
  have hb : ∀ l : List UInt8, bs (⟨l.toArray⟩ : ByteArray) = l := fun l => by simp [bs]
  have hsk' : ((x.sk.toNat : Nat) : Int) = x.sk := by omega
  have e : thrZ (splitS 32 (hlpP x)) = ⟨x.id, x.sk, x.n, true⟩ := by
    rw [hs]
    unfold thrZ
    rw [if_pos (show [x.id, skT x.sk.toNat, (⟨(Lib.itoa x.n).toArray⟩ : ByteArray)].length = 3 from rfl)]
    simp only [List.getD_cons_zero, List.getD_cons_succ, hb]
    rw [f2, f3, hi.1, hi.2, hsk']
    rfl
  rw [ht]
  have hg := hr_good (s := hlpP x) (by rw [e]; simp only [Bool.true_and]; exact h)
  refine ⟨hg.1, by rw [hg.2, e], ?_, ?_⟩
  · unfold hlpP
    simp only [ByteArray.size_append]
    have : (⟨#[32]⟩ : ByteArray).size = 1 := rfl
    omega
  · unfold hlpP
    simp only [ByteArray.size_append]
    omega
theorem hlp_none {x : HlpZ} (h : hlpB x = false) : hlpT x = ⟨#[]⟩ ∧ hrC (hlpT x) = false := by
  have e : hlpT x = ⟨#[]⟩ := by unfold hlpT; rw [if_neg (by rw [h]; simp)]
  refine ⟨e, ?_⟩
  rw [e]
  decide +kernel

end Go.Proofs.YtcclfmapbgdpdaaGreatDoor
