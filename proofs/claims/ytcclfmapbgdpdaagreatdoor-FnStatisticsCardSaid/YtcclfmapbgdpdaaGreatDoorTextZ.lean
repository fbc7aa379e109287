/- Plain: the parts of a text between blanks, words, texts; numbers in decimal. -/
import Derived.Test.YtcclfmapbgdpdaaGreatDoorName
import Derived.Lib.SplitLaws
import Derived.Lib.ItoaNum
namespace Go.Proofs.YtcclfmapbgdpdaaGreatDoor
open Go.RowKit
set_option linter.unusedVariables false

/-! ### parts between a byte -/
/-- A first part with something ahead of it. -/
def preH (cur : List UInt8) : List (List UInt8) → List (List UInt8)
  | [] => [cur]
  | p :: ps => (cur ++ p) :: ps
def splitL (c : UInt8) : List UInt8 → List (List UInt8)
  | [] => [[]]
  | b :: l => if b = c then [] :: splitL c l else preH [b] (splitL c l)
theorem splitL_ne (c : UInt8) (l : List UInt8) : splitL c l ≠ [] := by
  cases l with
  | nil => simp [splitL]
  | cons b l =>
    rw [splitL]
    split
    · simp
    · cases splitL c l <;> simp [preH]
theorem preH_nil {ps : List (List UInt8)} (h : ps ≠ []) : preH [] ps = ps := by
  cases ps with
  | nil => exact absurd rfl h
  | cons p ps => simp [preH]
theorem preH_pre (a b : List UInt8) (ps : List (List UInt8)) : preH a (preH b ps) = preH (a ++ b) ps := by
  cases ps <;> simp [preH]
theorem preH_sep (cur : List UInt8) (c : UInt8) (l : List UInt8) : preH cur (splitL c (c :: l)) = cur :: splitL c l := by
  rw [splitL, if_pos rfl]; simp [preH]
theorem preH_other (cur : List UInt8) {b c : UInt8} (h : b ≠ c) (l : List UInt8) : preH cur (splitL c (b :: l)) = preH (cur ++ [b]) (splitL c l) := by
  rw [splitL, if_neg h, preH_pre]

/-- The library's pieces at a separator of one byte. -/
theorem splitK_one (c : UInt8) (l : List UInt8) : Lib.splitK [c] 0 (Lib.count l [c]) l = splitL c l := by
  induction l with
  | nil => rw [Lib.count_miss (by simp [Lib.index])]; rfl
  | cons b l ih =>
    by_cases h : b = c
    · subst h
      have hix : Lib.index (b :: l) [b] = ((0 : Nat) : Int) := by rw [Lib.index]; simp [List.isPrefixOf]
      rw [Lib.count_cons_eq, Nat.add_comm, Lib.splitK, hix, splitL, if_pos rfl]
      simp [ih]
    · have hp : ([c] : List UInt8).isPrefixOf (b :: l) = false := by simp [List.isPrefixOf, Ne.symm h]
      have hix : Lib.index (b :: l) [c] = if Lib.index l [c] == -1 then -1 else Lib.index l [c] + 1 := by rw [Lib.index, hp]; simp
      rw [Lib.count_cons_ne b c l h, splitL, if_neg h, ← ih]
      by_cases hm : Lib.index l [c] = -1
      · rw [Lib.count_miss hm]; rfl
      · have hge := Lib.index_ge l [c]
        obtain ⟨j, hj⟩ : ∃ j : Nat, Lib.index l [c] = j := ⟨(Lib.index l [c]).toNat, by omega⟩
        rw [Lib.count_hit (by simp) hj]
        have e1 : (Lib.index l [c] == -1) = false := by simpa using hm
        have e2 : Lib.index (b :: l) [c] = ((j + 1 : Nat) : Int) := by rw [hix, e1, hj]; simp
        have e3 : (((j + 1 : Nat) : Int) == -1) = false := by simp; omega
        rw [Nat.add_comm 1, Lib.splitK, Lib.splitK, e2, e3, hj]
        rw [hj] at e1
        rw [e1]
        simp [preH]

/-- The parts of a string. -/
def splitS (c : UInt8) (s : ByteArray) : List ByteArray := (splitL c (bs s)).map fun l => ⟨l.toArray⟩
theorem splitS_ne (c : UInt8) (s : ByteArray) : splitS c s ≠ [] := by
  unfold splitS
  simp [splitL_ne]
theorem arr_bs (s : ByteArray) : (⟨(bs s).toArray⟩ : ByteArray) = s := bs_inj rfl
theorem splitB_S (c : UInt8) (s : ByteArray) : Lib.splitB ⟨#[c]⟩ 0 (Lib.countB s ⟨#[c]⟩) s = splitS c s := by
  have h := Lib.splitB_data ⟨#[c]⟩ 0 (Lib.countB s ⟨#[c]⟩) s
  have e : Lib.splitK [c] 0 (Lib.countB s ⟨#[c]⟩) (bs s) = splitL c (bs s) := splitK_one c (bs s)
  unfold splitS
  rw [← e]
  have h' : (Lib.splitB ⟨#[c]⟩ 0 (Lib.countB s ⟨#[c]⟩) s).map (·.data.toList) = Lib.splitK [c] 0 (Lib.countB s ⟨#[c]⟩) (bs s) := h
  rw [← h', List.map_map]
  conv => lhs; rw [← List.map_id (Lib.splitB ⟨#[c]⟩ 0 (Lib.countB s ⟨#[c]⟩) s)]
  refine List.map_congr_left fun x _ => ?_
  exact (arr_bs x).symm
theorem splitS_len (c : UInt8) (s : ByteArray) : (splitS c s).length = Lib.countB s ⟨#[c]⟩ + 1 := by
  rw [← splitB_S]
  exact Lib.splitB_all ⟨#[c]⟩ (Nat.le_refl 1) 0 _ s rfl
theorem splitL_len (c : UInt8) (l : List UInt8) : (splitL c l).length ≤ l.length + 1 := by
  induction l with
  | nil => simp [splitL]
  | cons b l ih =>
    rw [splitL]
    split
    · simp; omega
    · cases h : splitL c l with
      | nil => simp [preH]
      | cons p ps => rw [h] at ih; simp [preH] at ih ⊢; omega
theorem splitS_le (c : UInt8) (s : ByteArray) : (splitS c s).length ≤ s.size + 1 := by
  unfold splitS
  rw [List.length_map]
  exact splitL_len c (bs s)
theorem splitL_part (c : UInt8) (l : List UInt8) : ∀ p ∈ splitL c l, p.length ≤ l.length := by
  induction l with
  | nil => simp [splitL]
  | cons b l ih =>
    rw [splitL]
    split
    · intro p hp
      rcases List.mem_cons.1 hp with rfl | hp
      · simp
      · have := ih p hp; simp; omega
    · cases h : splitL c l with
      | nil => intro p hp; simp [preH] at hp; subst hp; simp
      | cons q ps =>
        rw [h] at ih
        intro p hp
        simp only [preH] at hp
        rcases List.mem_cons.1 hp with rfl | hp
        · have := ih q (by simp); simp; omega
        · have := ih p (by simp [hp]); simp; omega
theorem splitS_part (c : UInt8) (s : ByteArray) : ∀ p ∈ splitS c s, p.size ≤ s.size := by
  intro p hp
  obtain ⟨l, hl, rfl⟩ := List.mem_map.1 hp
  exact splitL_part c (bs s) l hl

/-- What a reader of bytes has when it stands at k: the parts done, and the part from f to k. -/
def SplitAt (c : UInt8) (s : ByteArray) (done : List ByteArray) (f k : Nat) : Prop :=
  f ≤ k ∧ splitL c (bs s) = done.map bs ++ preH (((bs s).take k).drop f) (splitL c ((bs s).drop k))
theorem splitAt_start (c : UInt8) (s : ByteArray) : SplitAt c s [] 0 0 := ⟨Nat.le_refl _, by simp [preH_nil (splitL_ne _ _)]⟩
theorem bs_extract (s : ByteArray) (a b : Nat) : bs (s.extract a b) = ((bs s).take b).drop a := by
  unfold bs
  rw [Lib.extract_data]
  rw [List.drop_take]
theorem splitAt_sep {c : UInt8} {s : ByteArray} {done : List ByteArray} {f k : Nat} (h : SplitAt c s done f k) (hx : (bs s)[k]? = some c) : SplitAt c s (done ++ [s.extract f k]) (k + 1) (k + 1) := by
  obtain ⟨hf, h⟩ := h
  refine ⟨Nat.le_refl _, ?_⟩
  have hk := (List.getElem?_eq_some_iff.1 hx).1
  have e : (bs s).drop k = c :: (bs s).drop (k + 1) := by rw [← List.getElem_cons_drop (h := hk), (List.getElem?_eq_some_iff.1 hx).2]
  rw [e, preH_sep] at h
  have e2 : ((bs s).take (k + 1)).drop (k + 1) = [] := List.drop_eq_nil_of_le (by rw [List.length_take]; omega)
  rw [h, List.map_append, List.append_assoc, e2, preH_nil (splitL_ne _ _)]
  simp [bs_extract]
theorem splitAt_other {c b : UInt8} {s : ByteArray} {done : List ByteArray} {f k : Nat} (h : SplitAt c s done f k) (hx : (bs s)[k]? = some b) (hb : b ≠ c) : SplitAt c s done f (k + 1) := by
  obtain ⟨hf, h⟩ := h
  refine ⟨by omega, ?_⟩
  have hk := (List.getElem?_eq_some_iff.1 hx).1
  have e : (bs s).drop k = b :: (bs s).drop (k + 1) := by rw [← List.getElem_cons_drop (h := hk), (List.getElem?_eq_some_iff.1 hx).2]
  rw [e, preH_other _ hb] at h
  rw [h, take_snoc hx, List.drop_append_of_le_length (by rw [List.length_take]; omega)]
theorem splitAt_end {c : UInt8} {s : ByteArray} {done : List ByteArray} {f : Nat} (h : SplitAt c s done f s.size) : splitS c s = done ++ [s.extract f s.size] := by
  obtain ⟨hf, h⟩ := h
  unfold splitS
  have e2 : (bs s).drop s.size = [] := List.drop_eq_nil_of_le (by rw [bs_len]; exact Nat.le_refl _)
  rw [h, e2]
  simp only [splitL, preH, List.append_nil, List.map_append, List.map_map, List.map_cons, List.map_nil]
  congr 1
  · conv => rhs; rw [← List.map_id done]
    exact List.map_congr_left fun x _ => arr_bs x
  · rw [← bs_extract, arr_bs]

/-! ### words and texts -/
def wchB (c : UInt8) : Bool := lowerB c || digitB c
def wordB (s : ByteArray) : Bool := !(bs s).isEmpty && (bs s).all wchB
/-- Is there a text of a line? -/
def textB (s : ByteArray) : Bool := decide (s.size ≤ 40) && (splitS 32 s).all wordB
theorem word_empty {s : ByteArray} (h : s.size = 0) : wordB s = false := by
  have : bs s = [] := List.eq_nil_of_length_eq_zero (by rw [bs_len]; exact h)
  unfold wordB
  rw [this]; rfl
theorem word_some {s : ByteArray} (h : 0 < s.size) : wordB s = (bs s).all wchB := by
  have : (bs s).isEmpty = false := by
    rw [List.isEmpty_eq_false_iff]
    intro e
    have := bs_len s
    rw [e] at this
    simp at this
    omega
  unfold wordB
  rw [this]; rfl
theorem text_empty {s : ByteArray} (h : s.size = 0) : textB s = false := by
  have h1 : bs s = [] := List.eq_nil_of_length_eq_zero (by rw [bs_len]; exact h)
  unfold textB splitS
  rw [h1]
  simp [splitL, wordB, bs]
theorem text_long {s : ByteArray} (h : 40 < s.size) : textB s = false := by
  unfold textB
  rw [decide_eq_false (by omega)]; rfl
theorem text_mid {s : ByteArray} (h : s.size ≤ 40) : textB s = (splitS 32 s).all wordB := by
  unfold textB
  rw [decide_eq_true h]; rfl

/-! ### decimal -/
/-- A number in decimal. -/
def decZ (n : Int) : ByteArray := ⟨(Lib.itoa n).toArray⟩
theorem bs_decZ (n : Int) : bs (decZ n) = Lib.itoa n := by simp [decZ, bs]
/-- The digits of a number, the last one first. -/
def revD (u : Nat) : List UInt8 := (Lib.decDigits u).reverse
theorem revD_small {u : Nat} (h : u < 10) : revD u = [UInt8.ofNat (48 + u)] := by
  unfold revD; rw [Lib.decDigits, dif_pos h]; rfl
theorem revD_big {u : Nat} (h : ¬ u < 10) : revD u = UInt8.ofNat (48 + u % 10) :: revD (u / 10) := by
  unfold revD; rw [Lib.decDigits, dif_neg h]; simp

end Go.Proofs.YtcclfmapbgdpdaaGreatDoor
