/- Plain: a line that is read from its text. -/
import Derived.Test.YtofombleojbehaaDoorNumZ
import Derived.Test.YtofombleojbehaaDoorLineT
import Derived.Lib.Join
namespace Go.Proofs.YtofombleojbehaaDoor
open Go.RowKit
set_option linter.unusedVariables false

theorem splitL_mid (c : UInt8) : ∀ (p b : List UInt8), splitL c (p ++ c :: b) = splitL c p ++ splitL c b
  | [], b => by
    show splitL c (c :: b) = [[]] ++ splitL c b
    simp [splitL]
  | x :: p, b => by
    rw [List.cons_append, splitL, splitL]
    by_cases h : x = c
    · rw [if_pos h, if_pos h, splitL_mid c p b]; rfl
    · rw [if_neg h, if_neg h, splitL_mid c p b]
      cases hq : splitL c p with
      | nil => exact absurd hq (splitL_ne c p)
      | cons q qs => rfl
theorem splitL_none {c : UInt8} : ∀ {q : List UInt8}, c ∉ q → splitL c q = [q]
  | [], _ => rfl
  | x :: q, h => by
    rw [List.mem_cons, not_or] at h
    rw [splitL, if_neg (Ne.symm h.1), splitL_none h.2]; rfl
theorem join_two (c : UInt8) (x : List UInt8) {ys : List (List UInt8)} (h : ys ≠ []) : Lib.join (x :: ys) [c] = x ++ c :: Lib.join ys [c] := by
  cases ys with
  | nil => exact absurd rfl h
  | cons y r => rw [Lib.join_cons, Lib.join_cons]; simp [Lib.joinTail]
theorem join_pre (c b : UInt8) {ps : List (List UInt8)} (h : ps ≠ []) : Lib.join (preH [b] ps) [c] = b :: Lib.join ps [c] := by
  cases ps with
  | nil => exact absurd rfl h
  | cons p r => rw [preH, Lib.join_cons, Lib.join_cons]; rfl
theorem join_split (c : UInt8) : ∀ l : List UInt8, Lib.join (splitL c l) [c] = l
  | [] => rfl
  | b :: l => by
    rw [splitL]
    by_cases h : b = c
    · rw [if_pos h, join_two c [] (splitL_ne c l), join_split c l, h]; rfl
    · rw [if_neg h, join_pre c b (splitL_ne c l), join_split c l]
theorem join_snoc (c : UInt8) : ∀ (xs : List (List UInt8)) (y : List UInt8), xs ≠ [] → Lib.join (xs ++ [y]) [c] = Lib.join xs [c] ++ c :: y
  | [], _, h => absurd rfl h
  | [x], y, _ => by rw [List.singleton_append, join_two c x (by simp), Lib.join_one, Lib.join_one]
  | x :: x2 :: xs, y, _ => by
    rw [List.cons_append, join_two c x (by simp), join_two c x (by simp), join_snoc c (x2 :: xs) y (by simp)]
    simp

/-! ### the parts of a line's text -/
def joinS (xs : List ByteArray) : ByteArray := ⟨(Lib.join (xs.map (·.data.toList)) [32]).toArray⟩
theorem bs_joinS (xs : List ByteArray) : bs (joinS xs) = Lib.join (xs.map bs) [32] := rfl
theorem bs_app (a b : ByteArray) : bs (a ++ b) = bs a ++ bs b := by simp [bs]
theorem joinS_nil : joinS [] = ⟨#[]⟩ := rfl
theorem joinS_one (y : ByteArray) : joinS [y] = y := bs_inj (by rw [bs_joinS, List.map_cons, List.map_nil, Lib.join_one])
theorem joinS_snoc (xs : List ByteArray) (y : ByteArray) (h : xs ≠ []) : joinS (xs ++ [y]) = joinS xs ++ ⟨#[32]⟩ ++ y := by
  refine bs_inj ?_
  rw [bs_joinS, List.map_append, List.map_cons, List.map_nil, join_snoc 32 _ _ (by simpa using h), bs_app, bs_app, bs_joinS, List.append_assoc]
  rfl
def rdX (W : List ByteArray) : LineZ := ⟨numV (bs (W.getD 0 ⟨#[]⟩)), numV (bs (W.getD 1 ⟨#[]⟩)), joinS ((W.take (W.length - 1)).drop 2), numV (bs (W.getD (W.length - 1) ⟨#[]⟩))⟩
def rdN (W : List ByteArray) : Bool := numB (bs (W.getD 0 ⟨#[]⟩)) && numB (bs (W.getD 1 ⟨#[]⟩)) && numB (bs (W.getD (W.length - 1) ⟨#[]⟩))
def readC (s : ByteArray) : Bool := decide (4 ≤ (splitS 32 s).length) && (rdN (splitS 32 s) && lineB (rdX (splitS 32 s)))
def readV (s : ByteArray) : LineZ := if readC s = true then rdX (splitS 32 s) else ⟨0, 0, ⟨#[]⟩, 0⟩
theorem read_short {s : ByteArray} (h : (splitS 32 s).length < 4) : readC s = false ∧ readV s = ⟨0, 0, ⟨#[]⟩, 0⟩ := by
  have e : readC s = false := by unfold readC; rw [decide_eq_false (by omega)]; rfl
  exact ⟨e, by unfold readV; rw [if_neg (by rw [e]; simp)]⟩
theorem read_bad {s : ByteArray} (h : (rdN (splitS 32 s) && lineB (rdX (splitS 32 s))) = false) : readC s = false ∧ readV s = ⟨0, 0, ⟨#[]⟩, 0⟩ := by
  have e : readC s = false := by unfold readC; rw [h, Bool.and_false]
  exact ⟨e, by unfold readV; rw [if_neg (by rw [e]; simp)]⟩
theorem read_good {s : ByteArray} (h4 : 4 ≤ (splitS 32 s).length) (h : (rdN (splitS 32 s) && lineB (rdX (splitS 32 s))) = true) : readC s = true ∧ readV s = rdX (splitS 32 s) := by
  have e : readC s = true := by unfold readC; rw [h, decide_eq_true h4]; rfl
  exact ⟨e, by unfold readV; rw [if_pos e]⟩
/-- A number that is read is written as it stood. -/
theorem num_back {l : List UInt8} (h : numB l = true) : Lib.itoa (numV l) = l := by
  have h' := h
  unfold numB at h'
  simp only [Bool.and_eq_true] at h'
  rcases read_law (of_decide_eq_true h'.1.1.1) (of_decide_eq_true h'.1.1.2) with ⟨_, hb⟩ | ⟨v, _, _, ⟨e, _, ev⟩ | ⟨_, hb⟩⟩
  · rw [h] at hb; exact absurd hb (by simp)
  · rw [ev]; exact e
  · rw [h] at hb; exact absurd hb (by simp)
theorem num_iff (l : List UInt8) : numB l = true ↔ Lib.itoa (numV l) = l := by
  refine ⟨num_back, fun e => ?_⟩
  rcases b_cases (numB l) with h | h
  · rw [numV_bad h] at e
    have e0 : Lib.itoa 0 = [48] := by
      have := itoa_nat 0
      rw [dec_zero] at this
      exact this
    rw [e0] at e
    rw [← e]; decide
  · exact h
theorem itoa_no (v : Int) : (32 : UInt8) ∉ Lib.itoa v := by
  have hd : ∀ u, (32 : UInt8) ∉ Lib.decDigits u := by
    intro u hm
    have := List.all_eq_true.1 (dec_dig u) _ hm
    exact absurd this (by decide)
  unfold Lib.itoa
  split
  · rw [List.mem_cons, not_or]; exact ⟨by decide, hd _⟩
  · exact hd _
theorem bs_print (x : LineZ) : bs (printL x) = Lib.itoa x.day ++ 32 :: (Lib.itoa x.minute ++ 32 :: (bs x.text ++ 32 :: Lib.itoa x.crc)) := by
  unfold printL bodyZ
  simp only [bs_app, bs_decZ]
  simp [bs]
/-- What the program asks at the end is what the reference asks of the three numbers. -/
theorem read_iff {s : ByteArray} (h4 : 4 ≤ (splitS 32 s).length) : printL (rdX (splitS 32 s)) = s ↔ rdN (splitS 32 s) = true := by
  have hj : Lib.join ((splitS 32 s).map bs) [32] = bs s := by
    have e : (splitS 32 s).map bs = splitL 32 (bs s) := by
      unfold splitS
      rw [List.map_map]
      conv => rhs; rw [← List.map_id (splitL 32 (bs s))]
      exact List.map_congr_left fun x _ => by simp [bs]
    rw [e, join_split]
  have hsp : (splitS 32 s).map bs = splitL 32 (bs s) := by
    unfold splitS
    rw [List.map_map]
    conv => rhs; rw [← List.map_id (splitL 32 (bs s))]
    exact List.map_congr_left fun x _ => by simp [bs]
  generalize splitS 32 s = W at *
  obtain ⟨a, b, M, l, rfl, hM⟩ : ∃ a b M l, W = a :: b :: (M ++ [l]) ∧ M ≠ [] := by
    match W, h4 with
    | a :: b :: R, h4 =>
      have hR : R ≠ [] := by intro e; rw [e] at h4; simp at h4
      refine ⟨a, b, R.dropLast, R.getLast hR, by rw [List.dropLast_concat_getLast], ?_⟩
      intro e
      have := congrArg List.length e
      rw [List.length_dropLast] at this
      simp at h4 this
      omega
  have hlen : (a :: b :: (M ++ [l])).length = M.length + 3 := by simp
  have e0 : (a :: b :: (M ++ [l])).getD 0 ⟨#[]⟩ = a := rfl
  have e1 : (a :: b :: (M ++ [l])).getD 1 ⟨#[]⟩ = b := rfl
  have el : (a :: b :: (M ++ [l])).getD ((a :: b :: (M ++ [l])).length - 1) ⟨#[]⟩ = l := by
    rw [hlen, List.getD_eq_getElem?_getD, show M.length + 3 - 1 = (M.length + 1) + 1 by omega, List.getElem?_cons_succ, List.getElem?_cons_succ, List.getElem?_append_right (Nat.le_refl _), Nat.sub_self]
    rfl
  have em : ((a :: b :: (M ++ [l])).take ((a :: b :: (M ++ [l])).length - 1)).drop 2 = M := by
    rw [hlen, show M.length + 3 - 1 = (M.length + 1) + 1 by omega, List.take_succ_cons, List.take_succ_cons]
    simp
  have hs : bs s = bs a ++ 32 :: (bs b ++ 32 :: (bs (joinS M) ++ 32 :: bs l)) := by
    rw [← hj, List.map_cons, List.map_cons, List.map_append, List.map_cons, List.map_nil, join_two 32 _ (by simp), join_two 32 _ (by simp), join_snoc 32 _ _ (by simpa using hM), bs_joinS]
  have hN : rdN (a :: b :: (M ++ [l])) = true ↔ numB (bs a) = true ∧ numB (bs b) = true ∧ numB (bs l) = true := by
    unfold rdN; rw [e0, e1, el]; simp [and_assoc]
  have hP : bs (printL (rdX (a :: b :: (M ++ [l])))) = Lib.itoa (numV (bs a)) ++ 32 :: (Lib.itoa (numV (bs b)) ++ 32 :: (bs (joinS M) ++ 32 :: Lib.itoa (numV (bs l)))) := by
    rw [bs_print]
    unfold rdX
    rw [e0, e1, el, em]
  rw [hN]
  constructor
  · intro e
    rw [e] at hP
    have hq := hsp
    rw [hP, splitL_mid, splitL_mid, splitL_mid, splitL_none (itoa_no _), splitL_none (itoa_no _), splitL_none (itoa_no _)] at hq
    simp only [List.map_cons, List.map_append, List.map_nil, List.cons_append, List.nil_append, List.cons.injEq] at hq
    obtain ⟨q0, q1, q2⟩ := hq
    have q3 := congrArg List.getLast? q2
    rw [List.getLast?_concat, List.getLast?_concat, Option.some.injEq] at q3
    exact ⟨(num_iff _).2 q0.symm, (num_iff _).2 q1.symm, (num_iff _).2 q3.symm⟩
  · rintro ⟨n0, n1, n2⟩
    refine bs_inj ?_
    rw [hP, hs, num_back n0, num_back n1, num_back n2]

end Go.Proofs.YtofombleojbehaaDoor
