/- Plain: logs; seals made anew; the first broken line. -/
import Derived.Test.YtcclfmapbgdpdaaGreatDoorSealZ
import Derived.Test.YtcclfmapbgdpdaaGreatDoorSplitS
namespace Go.Proofs.YtcclfmapbgdpdaaGreatDoor
open Go.RowKit
set_option linter.unusedVariables false

/-- Is a line valid for itself? -/
def lineB (x : LineZ) : Bool := dayB x.day && minB x.minute && textB x.text && crcB x.crc
/-- Is a line later than another one? -/
def laterB (a b : LineZ) : Bool := decide (b.day < a.day) || (decide (a.day = b.day) && decide (b.minute < a.minute))
/-- The line at k is not earlier than the one ahead of it. -/
def upL (xs : List LineZ) : Nat → Bool
  | 0 => true
  | k + 1 => match xs[k]?, xs[k + 1]? with
    | some a, some b => !laterB a b
    | _, _ => true
def stepL (xs : List LineZ) (k : Nat) : Bool := match xs[k]? with
  | some x => lineB x && upL xs k
  | none => true
/-- Are lines a log, but for their seals? -/
def isLogB (xs : List LineZ) : Bool := (List.range xs.length).all (stepL xs) && decide (xs.length ≤ 40)
theorem stepL_at {xs : List LineZ} {k : Nat} {x : LineZ} (h : xs[k]? = some x) : stepL xs k = (lineB x && upL xs k) := by unfold stepL; rw [h]
theorem upL_at {xs : List LineZ} {k : Nat} {a b : LineZ} (ha : xs[k]? = some a) (hb : xs[k + 1]? = some b) : upL xs (k + 1) = !laterB a b := by simp [upL, ha, hb]
theorem log_step {xs : List LineZ} (h : isLogB xs = true) {k : Nat} (hk : k < xs.length) : stepL xs k = true := by
  unfold isLogB at h
  rw [Bool.and_eq_true, List.all_eq_true] at h
  exact h.1 k (List.mem_range.2 hk)
theorem log_len {xs : List LineZ} (h : isLogB xs = true) : xs.length ≤ 40 := by
  unfold isLogB at h
  rw [Bool.and_eq_true] at h
  simpa using h.2
theorem log_bad {xs : List LineZ} {k : Nat} {x : LineZ} (hx : xs[k]? = some x) (h : lineB x = false ∨ upL xs k = false) : isLogB xs = false := by
  rw [← Bool.not_eq_true]
  intro hb
  have := log_step hb (List.getElem?_eq_some_iff.1 hx).1
  rw [stepL_at hx, Bool.and_eq_true] at this
  rcases h with h | h
  · rw [this.1] at h; cases h
  · rw [this.2] at h; cases h
theorem log_all {xs : List LineZ} {n : Nat} (hl : xs.length = n) (h : ∀ j, j < n → stepL xs j = true) : isLogB xs = decide ((n : Int) ≤ 40) := by
  unfold isLogB
  have : (List.range xs.length).all (stepL xs) = true := by
    rw [List.all_eq_true]
    intro j hj
    exact h j (by rw [← hl]; exact List.mem_range.1 hj)
  rw [this, Bool.true_and, decide_eq_decide, hl]
  omega
theorem upto_snocL {p : Nat → Bool} {K : Nat} (h : ∀ j, j < K → p j = true) (hk : p K = true) : ∀ j, j < K + 1 → p j = true := by
  intro j hj
  rcases Nat.lt_or_ge j K with h1 | h1
  · exact h j h1
  · obtain rfl : j = K := by omega
    exact hk
theorem log_line {xs : List LineZ} (h : isLogB xs = true) : ∀ x ∈ xs, lineB x = true := by
  intro x hx
  obtain ⟨k, hk⟩ := List.mem_iff_getElem?.1 hx
  have := log_step h (List.getElem?_eq_some_iff.1 hk).1
  rw [stepL_at hk, Bool.and_eq_true] at this
  exact this.1
theorem line_text {x : LineZ} (h : lineB x = true) : x.text.size ≤ 40 := by
  unfold lineB at h
  simp only [Bool.and_eq_true] at h
  have h2 := h.1.2
  unfold textB at h2
  rw [Bool.and_eq_true] at h2
  simpa using h2.1
/-- The texts are short. -/
def ShortL (xs : List LineZ) : Prop := ∀ x ∈ xs, x.text.size ≤ 1000
theorem log_short {xs : List LineZ} (h : isLogB xs = true) : ShortL xs := fun x hx => Nat.le_trans (line_text (log_line h x hx)) (by omega)

/-! ### seals -/
/-- The seal behind some lines. -/
def sealF (n : Nat) (xs : List LineZ) : Nat := xs.foldl (fun n x => sealZ n x.day x.minute x.text) n
theorem sealF_lt {n : Nat} (xs : List LineZ) (h : n < 65536) : sealF n xs < 65536 := by
  unfold sealF
  induction xs generalizing n with
  | nil => simpa only [List.foldl_nil] using h
  | cons x xs ih => rw [List.foldl_cons]; exact ih (sealZ_lt _ _ _ h)
theorem sealF_snoc (n : Nat) (xs : List LineZ) (x : LineZ) : sealF n (xs ++ [x]) = sealZ (sealF n xs) x.day x.minute x.text := by
  unfold sealF; rw [List.foldl_append, List.foldl_cons, List.foldl_nil]
theorem sealF_at {n : Nat} {xs : List LineZ} {k : Nat} {x : LineZ} (h : xs[k]? = some x) : sealF n (xs.take (k + 1)) = sealZ (sealF n (xs.take k)) x.day x.minute x.text := by
  rw [take_snoc h, sealF_snoc]
/-- The lines with their seals made anew behind a seal. -/
def sealsZ : Nat → List LineZ → List LineZ
  | _, [] => []
  | n, x :: xs => ⟨x.day, x.minute, x.text, (sealZ n x.day x.minute x.text : Nat)⟩ :: sealsZ (sealZ n x.day x.minute x.text) xs
def madeZ (xs : List LineZ) : List LineZ := sealsZ 65535 xs
theorem sealsZ_len (n : Nat) (xs : List LineZ) : (sealsZ n xs).length = xs.length := by
  induction xs generalizing n with
  | nil => rfl
  | cons x xs ih => rw [sealsZ, List.length_cons, List.length_cons, ih]
theorem madeZ_len (xs : List LineZ) : (madeZ xs).length = xs.length := sealsZ_len _ xs
theorem sealsZ_append (n : Nat) (xs ys : List LineZ) : sealsZ n (xs ++ ys) = sealsZ n xs ++ sealsZ (sealF n xs) ys := by
  induction xs generalizing n with
  | nil => rfl
  | cons x xs ih => rw [List.cons_append, sealsZ, sealsZ, ih]; rfl
theorem sealsZ_snoc (n : Nat) (xs : List LineZ) (x : LineZ) : sealsZ n (xs ++ [x]) = sealsZ n xs ++ [⟨x.day, x.minute, x.text, (sealF n (xs ++ [x]) : Nat)⟩] := by
  rw [sealsZ_append, sealF_snoc]; rfl
theorem made_snoc {xs : List LineZ} {k : Nat} {x : LineZ} (h : xs[k]? = some x) : madeZ (xs.take (k + 1)) = madeZ (xs.take k) ++ [⟨x.day, x.minute, x.text, (sealF 65535 (xs.take (k + 1)) : Nat)⟩] := by
  unfold madeZ
  rw [take_snoc h, sealsZ_snoc]
theorem made_take (xs : List LineZ) (k : Nat) : (madeZ xs).take k = madeZ (xs.take k) := by
  unfold madeZ
  conv => lhs; rw [← List.take_append_drop k xs, sealsZ_append]
  by_cases hk : k ≤ xs.length
  · rw [List.take_append_of_le_length (by rw [sealsZ_len, List.length_take]; omega), List.take_of_length_le (by rw [sealsZ_len, List.length_take]; omega)]
  · rw [List.drop_eq_nil_of_le (by omega), sealsZ, List.append_nil, List.take_of_length_le (by rw [sealsZ_len, List.length_take]; omega)]
theorem made_at {xs : List LineZ} {k : Nat} {x : LineZ} (h : xs[k]? = some x) : (madeZ xs)[k]? = some ⟨x.day, x.minute, x.text, (sealF 65535 (xs.take (k + 1)) : Nat)⟩ := by
  have h1 : ((madeZ xs).take (k + 1))[k]? = (madeZ xs)[k]? := by rw [List.getElem?_take, if_pos (by omega)]
  have hk := (List.getElem?_eq_some_iff.1 h).1
  rw [← h1, made_take, made_snoc h, List.getElem?_append_right (by rw [madeZ_len, List.length_take]; omega), madeZ_len, List.length_take]
  simp [Nat.min_eq_left (Nat.le_of_lt hk)]
theorem made_fine {xs : List LineZ} (h : ∀ x ∈ xs, kLine.fine x) : ∀ x ∈ madeZ xs, kLine.fine x := by
  intro y hy
  obtain ⟨k, hk⟩ := List.mem_iff_getElem?.1 hy
  have hl := (List.getElem?_eq_some_iff.1 hk).1
  rw [madeZ_len] at hl
  have hx := List.getElem?_eq_getElem hl
  rw [made_at hx] at hk
  obtain rfl := Option.some.inj hk
  obtain ⟨h1, h2, h3, _⟩ := h _ (List.getElem_mem hl)
  have := sealF_lt (xs.take (k + 1)) (n := 65535) (by omega)
  exact ⟨h1, h2, h3, by simp only; unfold I64; omega⟩

/-! ### the first broken line -/
/-- Is the seal at k the right one? -/
def okAt (xs : List LineZ) (k : Nat) : Bool := match xs[k]? with
  | some x => decide ((sealF 65535 (xs.take (k + 1)) : Int) = x.crc)
  | none => true
theorem okAt_at {xs : List LineZ} {k : Nat} {x : LineZ} (h : xs[k]? = some x) : okAt xs k = decide ((sealF 65535 (xs.take (k + 1)) : Int) = x.crc) := by unfold okAt; rw [h]
/-- The first line whose seal is wrong, or -1. -/
def brokenI (xs : List LineZ) : Int := idxI (fun k => !okAt xs k) (List.range xs.length)
/-- The lines ahead of k have the right seals. -/
def OkTo (xs : List LineZ) (k : Nat) : Prop := ∀ j, j < k → okAt xs j = true
theorem okTo_any {xs : List LineZ} {k : Nat} (h : OkTo xs k) (hk : k ≤ xs.length) : ((List.range xs.length).take k).any (fun k => !okAt xs k) = false := by
  rw [List.any_eq_false]
  intro j hj
  rw [List.take_range, List.mem_range] at hj
  rw [h j (by omega)]
  simp
theorem broken_here {xs : List LineZ} {k : Nat} (h : OkTo xs k) (hk : k < xs.length) (hb : okAt xs k = false) : brokenI xs = (k : Int) :=
  idx_here (x := k) (by rw [List.getElem?_range hk]) (okTo_any h (Nat.le_of_lt hk)) (by rw [hb]; rfl)
theorem broken_none {xs : List LineZ} {n : Nat} (hl : xs.length = n) (h : OkTo xs n) : brokenI xs = -1 :=
  idx_none (by rw [List.length_range]; exact hl) (okTo_any h (Nat.le_of_eq hl.symm))
theorem broken_range (xs : List LineZ) : -1 ≤ brokenI xs ∧ brokenI xs ≤ xs.length := by
  have := idx_range (fun k => !okAt xs k) (List.range xs.length)
  rw [List.length_range] at this
  exact this
theorem ok_iff {xs : List LineZ} {k : Nat} {x : LineZ} (h : xs[k]? = some x) : okAt xs k = true ↔ (madeZ xs)[k]? = some x := by
  rw [okAt_at h, made_at h, decide_eq_true_eq, Option.some.injEq]
  obtain ⟨a, b, c, d⟩ := x
  simp
theorem broken_made (xs : List LineZ) : decide (madeZ xs = xs) = decide (brokenI xs < 0) := by
  rw [decide_eq_decide]
  constructor
  · intro h
    rw [broken_none rfl]
    · omega
    · intro j hj
      exact (ok_iff (List.getElem?_eq_getElem hj)).2 (by rw [h]; exact List.getElem?_eq_getElem hj)
  · intro h
    refine List.ext_getElem? fun k => ?_
    by_cases hk : k < xs.length
    · have hx := List.getElem?_eq_getElem hk
      rw [hx]
      refine (ok_iff hx).1 ?_
      have h1 : brokenI xs = -1 := by have := (broken_range xs).1; omega
      unfold brokenI idxI at h1
      split at h1
      · omega
      · rename_i hn
        rw [← Bool.not_eq_false]
        intro hb
        exact hn (List.findIdx_lt_length_of_exists ⟨k, List.mem_range.2 hk, by simp [hb]⟩)
    · rw [List.getElem?_eq_none (by rw [madeZ_len]; omega), List.getElem?_eq_none (by omega)]
/-- Is a log valid? -/
def validL (xs : List LineZ) : Bool := isLogB xs && decide (brokenI xs < 0)
theorem valid_made (xs : List LineZ) : validL xs = (isLogB xs && decide (madeZ xs = xs)) := by unfold validL; rw [broken_made]

end Go.Proofs.YtcclfmapbgdpdaaGreatDoor
