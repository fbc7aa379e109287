/- Plain: a line that is read from its text. -/
import Derived.Test.YtcclfmapbgdpdaaGreatDoorJoinZ
import Derived.Test.YtcclfmapbgdpdaaGreatDoorLineT
namespace Go.Proofs.YtcclfmapbgdpdaaGreatDoor
open Go.RowKit
set_option linter.unusedVariables false

def rdX (W : List ByteArray) : LineZ := ⟨numV (bs (W.getD 0 ⟨#[]⟩)), numV (bs (W.getD 1 ⟨#[]⟩)), joinS ((W.take (W.length - 1)).drop 2), numV (bs (W.getD (W.length - 1) ⟨#[]⟩))⟩
def rdN (W : List ByteArray) : Bool := numB (bs (W.getD 0 ⟨#[]⟩)) && numB (bs (W.getD 1 ⟨#[]⟩)) && numB (bs (W.getD (W.length - 1) ⟨#[]⟩))
def readC (s : ByteArray) : Bool := decide (4 ≤ (splitS 32 s).length) && (rdN (splitS 32 s) && lineB (rdX (splitS 32 s)))
def readV (s : ByteArray) : LineZ := if readC s = true then rdX (splitS 32 s) else ⟨0, 0, ⟨#[]⟩, 0⟩
theorem read_short {s : ByteArray} (h : (splitS 32 s).length < 4) : readC s = false ∧ readV s = ⟨0, 0, ⟨#[]⟩, 0⟩ := by
  have e : readC s = false := by unfold readC; rw [decide_eq_false (by omega)]; rfl
  exact ⟨e, by unfold readV; rw [if_neg (by rw [e]; simp)]⟩
theorem read_bad {s : ByteArray} (h : (rdN (splitS 32 s) && lineB (rdX (splitS 32 s))) = false) : readC s = false ∧ readV s = ⟨0, 0, ⟨#[]⟩, 0⟩ := by
  have e : readC s = false := by unfold readC; rw [h, Bool.and_false]
  exact ⟨e, by unfold readV; rw [if_neg (by rw [e]; simp)]⟩
theorem read_good {s : ByteArray} (h4 : 4 ≤ (splitS 32 s).length) (h : (rdN (splitS 32 s) && lineB (rdX (splitS 32 s))) = true) : readC s = true ∧ readV s = rdX (splitS 32 s) := by
  have e : readC s = true := by unfold readC; rw [h, decide_eq_true h4]; rfl
  exact ⟨e, by unfold readV; rw [if_pos e]⟩
theorem bs_print (x : LineZ) : bs (printL x) = Lib.itoa x.day ++ 32 :: (Lib.itoa x.minute ++ 32 :: (bs x.text ++ 32 :: Lib.itoa x.crc)) := by
  unfold printL bodyZ
  simp only [bs_app, bs_decZ]
  simp [bs]
/-- What the program asks at the end is what the reference asks of the three numbers. -/
theorem read_iff {s : ByteArray} (h4 : 4 ≤ (splitS 32 s).length) : printL (rdX (splitS 32 s)) = s ↔ rdN (splitS 32 s) = true := by
  have hj : Lib.join ((splitS 32 s).map bs) [32] = bs s := by
    have e : (splitS 32 s).map bs = splitL 32 (bs s) := by
      unfold splitS
      rw [List.map_map]
      conv => rhs; rw [← List.map_id (splitL 32 (bs s))]
      exact List.map_congr_left fun x _ => by simp [bs]
    rw [e, join_split]
  have hsp : (splitS 32 s).map bs = splitL 32 (bs s) := by
    unfold splitS
    rw [List.map_map]
    conv => rhs; rw [← List.map_id (splitL 32 (bs s))]
    exact List.map_congr_left fun x _ => by simp [bs]
  generalize splitS 32 s = W at *
  obtain ⟨a, b, M, l, rfl, hM⟩ : ∃ a b M l, W = a :: b :: (M ++ [l]) ∧ M ≠ [] := by
    match W, h4 with
    | a :: b :: R, h4 =>
      have hR : R ≠ [] := by intro e; rw [e] at h4; simp at h4
      refine ⟨a, b, R.dropLast, R.getLast hR, by rw [List.dropLast_concat_getLast], ?_⟩
      intro e
      have := congrArg List.length e
      rw [List.length_dropLast] at this
      simp at h4 this
      omega
  have hlen : (a :: b :: (M ++ [l])).length = M.length + 3 := by simp
  have e0 : (a :: b :: (M ++ [l])).getD 0 ⟨#[]⟩ = a := rfl
  have e1 : (a :: b :: (M ++ [l])).getD 1 ⟨#[]⟩ = b := rfl
  have el : (a :: b :: (M ++ [l])).getD ((a :: b :: (M ++ [l])).length - 1) ⟨#[]⟩ = l := by
    rw [hlen, List.getD_eq_getElem?_getD, show M.length + 3 - 1 = (M.length + 1) + 1 by omega, List.getElem?_cons_succ, List.getElem?_cons_succ, List.getElem?_append_right (Nat.le_refl _), Nat.sub_self]
    rfl
  have em : ((a :: b :: (M ++ [l])).take ((a :: b :: (M ++ [l])).length - 1)).drop 2 = M := by
    rw [hlen, show M.length + 3 - 1 = (M.length + 1) + 1 by omega, List.take_succ_cons, List.take_succ_cons]
    simp
  have hs : bs s = bs a ++ 32 :: (bs b ++ 32 :: (bs (joinS M) ++ 32 :: bs l)) := by
    rw [← hj, List.map_cons, List.map_cons, List.map_append, List.map_cons, List.map_nil, join_two 32 _ (by simp), join_two 32 _ (by simp), join_snoc 32 _ _ (by simpa using hM), bs_joinS]
  have hN : rdN (a :: b :: (M ++ [l])) = true ↔ numB (bs a) = true ∧ numB (bs b) = true ∧ numB (bs l) = true := by
    unfold rdN; rw [e0, e1, el]; simp [and_assoc]
  have hP : bs (printL (rdX (a :: b :: (M ++ [l])))) = Lib.itoa (numV (bs a)) ++ 32 :: (Lib.itoa (numV (bs b)) ++ 32 :: (bs (joinS M) ++ 32 :: Lib.itoa (numV (bs l)))) := by
    rw [bs_print]
    unfold rdX
    rw [e0, e1, el, em]
  rw [hN]
  constructor
  · intro e
    rw [e] at hP
    have hq := hsp
    rw [hP, splitL_mid, splitL_mid, splitL_mid, splitL_none (itoa_no _), splitL_none (itoa_no _), splitL_none (itoa_no _)] at hq
    simp only [List.map_cons, List.map_append, List.map_nil, List.cons_append, List.nil_append, List.cons.injEq] at hq
    obtain ⟨q0, q1, q2⟩ := hq
    have q3 := congrArg List.getLast? q2
    rw [List.getLast?_concat, List.getLast?_concat, Option.some.injEq] at q3
    exact ⟨(num_iff _).2 q0.symm, (num_iff _).2 q1.symm, (num_iff _).2 q3.symm⟩
  · rintro ⟨n0, n1, n2⟩
    refine bs_inj ?_
    rw [hP, hs, num_back n0, num_back n1, num_back n2]

end Go.Proofs.YtcclfmapbgdpdaaGreatDoor
