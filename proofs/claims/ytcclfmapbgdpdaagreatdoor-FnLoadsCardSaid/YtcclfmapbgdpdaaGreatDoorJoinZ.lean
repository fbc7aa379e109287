/- Plain: parts joined and split; numbers that are read and written; a series as text. -/
import Derived.Test.YtcclfmapbgdpdaaGreatDoorNumZ
import Derived.Lib.Join
namespace Go.Proofs.YtcclfmapbgdpdaaGreatDoor
open Go.RowKit
set_option linter.unusedVariables false

theorem splitL_mid (c : UInt8) : ∀ (p b : List UInt8), splitL c (p ++ c :: b) = splitL c p ++ splitL c b
  | [], b => by
    show splitL c (c :: b) = [[]] ++ splitL c b
    simp [splitL]
  | x :: p, b => by
    rw [List.cons_append, splitL, splitL]
    by_cases h : x = c
    · rw [if_pos h, if_pos h, splitL_mid c p b]; rfl
    · rw [if_neg h, if_neg h, splitL_mid c p b]
      cases hq : splitL c p with
      | nil => exact absurd hq (splitL_ne c p)
      | cons q qs => rfl
theorem splitL_none {c : UInt8} : ∀ {q : List UInt8}, c ∉ q → splitL c q = [q]
  | [], _ => rfl
  | x :: q, h => by
    rw [List.mem_cons, not_or] at h
    rw [splitL, if_neg (Ne.symm h.1), splitL_none h.2]; rfl
theorem join_two (c : UInt8) (x : List UInt8) {ys : List (List UInt8)} (h : ys ≠ []) : Lib.join (x :: ys) [c] = x ++ c :: Lib.join ys [c] := by
  cases ys with
  | nil => exact absurd rfl h
  | cons y r => rw [Lib.join_cons, Lib.join_cons]; simp [Lib.joinTail]
theorem join_pre (c b : UInt8) {ps : List (List UInt8)} (h : ps ≠ []) : Lib.join (preH [b] ps) [c] = b :: Lib.join ps [c] := by
  cases ps with
  | nil => exact absurd rfl h
  | cons p r => rw [preH, Lib.join_cons, Lib.join_cons]; rfl
theorem join_split (c : UInt8) : ∀ l : List UInt8, Lib.join (splitL c l) [c] = l
  | [] => rfl
  | b :: l => by
    rw [splitL]
    by_cases h : b = c
    · rw [if_pos h, join_two c [] (splitL_ne c l), join_split c l, h]; rfl
    · rw [if_neg h, join_pre c b (splitL_ne c l), join_split c l]
theorem join_snoc (c : UInt8) : ∀ (xs : List (List UInt8)) (y : List UInt8), xs ≠ [] → Lib.join (xs ++ [y]) [c] = Lib.join xs [c] ++ c :: y
  | [], _, h => absurd rfl h
  | [x], y, _ => by rw [List.singleton_append, join_two c x (by simp), Lib.join_one, Lib.join_one]
  | x :: x2 :: xs, y, _ => by
    rw [List.cons_append, join_two c x (by simp), join_two c x (by simp), join_snoc c (x2 :: xs) y (by simp)]
    simp

/-! ### the parts of a line's text -/
def joinS (xs : List ByteArray) : ByteArray := ⟨(Lib.join (xs.map (·.data.toList)) [32]).toArray⟩
theorem bs_joinS (xs : List ByteArray) : bs (joinS xs) = Lib.join (xs.map bs) [32] := rfl
theorem bs_app (a b : ByteArray) : bs (a ++ b) = bs a ++ bs b := by simp [bs]
theorem joinS_nil : joinS [] = ⟨#[]⟩ := rfl
theorem joinS_one (y : ByteArray) : joinS [y] = y := bs_inj (by rw [bs_joinS, List.map_cons, List.map_nil, Lib.join_one])
theorem joinS_snoc (xs : List ByteArray) (y : ByteArray) (h : xs ≠ []) : joinS (xs ++ [y]) = joinS xs ++ ⟨#[32]⟩ ++ y := by
  refine bs_inj ?_
  rw [bs_joinS, List.map_append, List.map_cons, List.map_nil, join_snoc 32 _ _ (by simpa using h), bs_app, bs_app, bs_joinS, List.append_assoc]
  rfl
/-- A number that is read is written as it stood. -/
theorem num_back {l : List UInt8} (h : numB l = true) : Lib.itoa (numV l) = l := by
  have h' := h
  unfold numB at h'
  simp only [Bool.and_eq_true] at h'
  rcases read_law (of_decide_eq_true h'.1.1.1) (of_decide_eq_true h'.1.1.2) with ⟨_, hb⟩ | ⟨v, _, _, ⟨e, _, ev⟩ | ⟨_, hb⟩⟩
  · rw [h] at hb; exact absurd hb (by simp)
  · rw [ev]; exact e
  · rw [h] at hb; exact absurd hb (by simp)
theorem num_iff (l : List UInt8) : numB l = true ↔ Lib.itoa (numV l) = l := by
  refine ⟨num_back, fun e => ?_⟩
  rcases b_cases (numB l) with h | h
  · rw [numV_bad h] at e
    have e0 : Lib.itoa 0 = [48] := by
      have := itoa_nat 0
      rw [dec_zero] at this
      exact this
    rw [e0] at e
    rw [← e]; decide
  · exact h
theorem itoa_no (v : Int) : (32 : UInt8) ∉ Lib.itoa v := by
  have hd : ∀ u, (32 : UInt8) ∉ Lib.decDigits u := by
    intro u hm
    have := List.all_eq_true.1 (dec_dig u) _ hm
    exact absurd this (by decide)
  unfold Lib.itoa
  split
  · rw [List.mem_cons, not_or]; exact ⟨by decide, hd _⟩
  · exact hd _
theorem split_join {c : UInt8} : ∀ {xs : List (List UInt8)}, xs ≠ [] → (∀ x ∈ xs, c ∉ x) → splitL c (Lib.join xs [c]) = xs
  | [], h, _ => absurd rfl h
  | [x], _, hx => by rw [Lib.join_one, splitL_none (hx x (by simp))]
  | x :: y :: r, _, hx => by
    rw [join_two c x (by simp), splitL_mid, splitL_none (hx x (by simp)), split_join (by simp) (fun z hz => hx z (by simp [hz]))]
    rfl
theorem split_bs (s : ByteArray) : (splitS 32 s).map bs = splitL 32 (bs s) := by
  unfold splitS
  rw [List.map_map]
  conv => rhs; rw [← List.map_id (splitL 32 (bs s))]
  exact List.map_congr_left fun x _ => by simp [bs]
/-- A series as text. -/
def serT (xs : List Int) : ByteArray := joinS (xs.map decZ)
/-- Its text is what was read iff all its parts were numbers. -/
theorem ser_read (s : ByteArray) : serT ((splitS 32 s).map fun w => numV (bs w)) = s ↔ (splitS 32 s).all (fun w => numB (bs w)) = true := by
  have hsp := split_bs s
  have hne := splitS_ne 32 s
  have hj : Lib.join ((splitS 32 s).map bs) [32] = bs s := by rw [hsp, join_split]
  have e1 : bs (serT ((splitS 32 s).map fun w => numV (bs w))) = Lib.join ((splitS 32 s).map fun w => Lib.itoa (numV (bs w))) [32] := by
    unfold serT
    rw [bs_joinS, List.map_map, List.map_map]
    congr 1
  generalize splitS 32 s = W at *
  constructor
  · intro e
    rw [e] at e1
    rw [e1, split_join (by simpa using hne) (by
      intro x hx
      obtain ⟨w, _, rfl⟩ := List.mem_map.1 hx
      exact itoa_no _)] at hsp
    rw [List.all_eq_true]
    intro w hw
    have := (List.map_inj_left.1 hsp) w hw
    exact (num_iff _).2 this.symm
  · intro e
    refine bs_inj ?_
    rw [e1, ← hj]
    congr 1
    exact List.map_congr_left fun w hw => num_back (List.all_eq_true.1 e w hw)
theorem joinS_take {W : List ByteArray} {k : Nat} {y : ByteArray} (hx : W[k]? = some y) (hk : 0 < k) : joinS (W.take (k + 1)) = joinS (W.take k) ++ ⟨#[32]⟩ ++ y := by
  rw [take_snoc hx, joinS_snoc]
  intro e
  have h1 := (List.getElem?_eq_some_iff.1 hx).1
  have h2 := congrArg List.length e
  rw [List.length_take, List.length_nil] at h2
  omega
theorem getD_atB {W : List ByteArray} {k : Nat} {a : ByteArray} (h : W[k]? = some a) : W.getD k ⟨#[]⟩ = a := by rw [List.getD_eq_getElem?_getD, h]; rfl
theorem own_addrB {w : World} {base : Nat} {e : TypeId} {size n c : Nat} {A : Option Addr} {xs : List Value} (h : w.ownsRow base e size (.slice A n c) n xs) (hn : 1 ≤ n) : ∃ g, A = some ⟨g, 0, none⟩ ∧ base ≤ g := by
  rcases h.2 with ⟨hv, rfl⟩ | ⟨g, cap, cur, hv, hb, _⟩
  · omega
  · injection hv with hv
    exact ⟨g, hv, hb⟩
theorem join_len (c : UInt8) (S : Nat) : ∀ xs : List (List UInt8), (∀ x ∈ xs, x.length ≤ S) → (Lib.join xs [c]).length ≤ xs.length * (S + 1)
  | [], _ => by simp [Lib.join_nil]
  | [x], h => by rw [Lib.join_one]; have := h x (by simp); simp; omega
  | x :: y :: r, h => by
    have ih := join_len c S (y :: r) (fun z hz => h z (by simp [hz]))
    have hx := h x (by simp)
    rw [join_two c x (by simp), List.length_append, List.length_cons, List.length_cons, Nat.succ_mul]
    omega

end Go.Proofs.YtcclfmapbgdpdaaGreatDoor
