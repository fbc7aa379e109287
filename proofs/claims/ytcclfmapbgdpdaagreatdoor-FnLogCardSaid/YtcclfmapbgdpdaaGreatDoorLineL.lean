/- Plain: a line that is written is read back. -/
import Derived.Test.YtcclfmapbgdpdaaGreatDoorReadZ
import Derived.Test.YtcclfmapbgdpdaaGreatDoorDecL
namespace Go.Proofs.YtcclfmapbgdpdaaGreatDoor
open Go.RowKit
set_option linter.unusedVariables false

theorem map_bs_inj {xs : List ByteArray} {ys : List (List UInt8)} (h : xs.map bs = ys) : xs = ys.map fun l => ⟨l.toArray⟩ := by
  subst h
  rw [List.map_map]
  conv => lhs; rw [← List.map_id xs]
  exact List.map_congr_left fun x _ => (arr_bs x).symm
theorem line_split (x : LineZ) : (splitS 32 (printL x)).map bs = Lib.itoa x.day :: Lib.itoa x.minute :: ((splitS 32 x.text).map bs ++ [Lib.itoa x.crc]) := by
  rw [split_bs, split_bs, bs_print, splitL_mid, splitL_mid, splitL_mid, splitL_none (itoa_no _), splitL_none (itoa_no _), splitL_none (itoa_no _)]
  rfl
/-- What LineText writes of a line ReadLine reads. -/
theorem line_back {x : LineZ} (h : lineB x = true) : readC (textL x) = true ∧ readV (textL x) = x := by
  have ht : textL x = printL x := by unfold textL; rw [if_pos h]
  have h' := h
  unfold lineB at h'
  simp only [Bool.and_eq_true] at h'
  have hd := withinB_iff.1 (show withinB x.day 0 100000 = true from h'.1.1.1)
  have hm := withinB_iff.1 (show withinB x.minute 0 1439 = true from h'.1.1.2)
  have hc := withinB_iff.1 (show withinB x.crc 0 65535 = true from h'.2)
  have nd := num_itoa (x := x.day) (by omega) (by omega)
  have nm := num_itoa (x := x.minute) (by omega) (by omega)
  have nc := num_itoa (x := x.crc) (by omega) (by omega)
  have hs := map_bs_inj (line_split x)
  have hw := splitS_ne 32 x.text
  have hj : joinS (splitS 32 x.text) = x.text := by
    refine bs_inj ?_
    rw [bs_joinS, split_bs, join_split]
  have hmb : ((splitS 32 x.text).map bs).map (fun l => (⟨l.toArray⟩ : ByteArray)) = splitS 32 x.text := (map_bs_inj rfl).symm
  simp only [List.map_cons, List.map_append, List.map_nil, hmb] at hs
  rw [ht]
  generalize splitS 32 x.text = W at *
  have hb : ∀ l : List UInt8, bs (⟨l.toArray⟩ : ByteArray) = l := fun l => by simp [bs]
  have hlen : (splitS 32 (printL x)).length = W.length + 3 := by rw [hs]; simp
  have hW : 1 ≤ W.length := List.length_pos_iff.2 hw
  have g0 : bs ((splitS 32 (printL x)).getD 0 ⟨#[]⟩) = Lib.itoa x.day := by rw [hs]; exact hb _
  have g1 : bs ((splitS 32 (printL x)).getD 1 ⟨#[]⟩) = Lib.itoa x.minute := by rw [hs]; exact hb _
  have g2 : bs ((splitS 32 (printL x)).getD (W.length + 2) ⟨#[]⟩) = Lib.itoa x.crc := by
    rw [hs]
    show bs ((W ++ [(⟨(Lib.itoa x.crc).toArray⟩ : ByteArray)]).getD W.length ⟨#[]⟩) = _
    rw [List.getD_eq_getElem?_getD, List.getElem?_append_right (Nat.le_refl _), Nat.sub_self]
    exact hb _
  have g3 : ((splitS 32 (printL x)).take (W.length + 2)).drop 2 = W := by
    rw [hs]
    show (W ++ [(⟨(Lib.itoa x.crc).toArray⟩ : ByteArray)]).take W.length = W
    rw [List.take_append_of_le_length (Nat.le_refl _), List.take_length]
  have hX : rdX (splitS 32 (printL x)) = x := by
    unfold rdX
    rw [hlen, show W.length + 3 - 1 = W.length + 2 by omega, g0, g1, g2, g3, hj, nd.2, nm.2, nc.2]
  have hN : rdN (splitS 32 (printL x)) = true := by
    unfold rdN
    rw [hlen, show W.length + 3 - 1 = W.length + 2 by omega, g0, g1, g2, nd.1, nm.1, nc.1]
    rfl
  have hg := read_good (s := printL x) (by rw [hlen]; omega) (by rw [hN, hX, h]; rfl)
  exact ⟨hg.1, by rw [hg.2, hX]⟩

end Go.Proofs.YtcclfmapbgdpdaaGreatDoor
