/- Plain: the first words of lines, in order and counted. -/
import Derived.Test.YtcclfmapbgdpdaaGreatDoorMg
namespace Go.Proofs.YtcclfmapbgdpdaaGreatDoor
open Go.RowKit
set_option linter.unusedVariables false

/-- The part of a text ahead of its first blank. -/
def headS (s : ByteArray) : ByteArray := (splitS 32 s).getD 0 ⟨#[]⟩
theorem splitL_head (c : UInt8) : ∀ l : List UInt8, (splitL c l).getD 0 [] = l.takeWhile (fun b => b != c)
  | [] => rfl
  | b :: l => by
    rw [splitL]
    by_cases h : b = c
    · subst h
      simp
    · rw [if_neg h, List.takeWhile_cons, if_pos (by simpa using h), ← splitL_head c l]
      cases hq : splitL c l with
      | nil => exact absurd hq (splitL_ne c l)
      | cons p ps => rfl
theorem bs_headS (s : ByteArray) : bs (headS s) = (bs s).takeWhile (fun b => b != 32) := by
  rw [← splitL_head]
  unfold headS splitS
  cases hq : splitL 32 (bs s) with
  | nil => exact absurd hq (splitL_ne 32 _)
  | cons p ps => simp [bs]
/-- How often a word stands in a row. -/
def cntB (x : ByteArray) (xs : List ByteArray) : Nat := xs.countP fun y => decide (y = x)
/-- The words are those of the row, in order, and the counts tell how often each one stands there. -/
def Counted (xs ws : List ByteArray) (cs : List Int) : Prop := SortB ws ∧ (∀ x, x ∈ ws ↔ x ∈ xs) ∧ cs = ws.map fun w => (cntB w xs : Int)
theorem counted_one {xs ws ws' : List ByteArray} {cs cs' : List Int} (h : Counted xs ws cs) (k : Counted xs ws' cs') : ws = ws' ∧ cs = cs' := by
  have e : ws = ws' := sortB_ext h.1 k.1 (fun x => (h.2.1 x).trans (k.2.1 x).symm)
  exact ⟨e, by rw [h.2.2, k.2.2, e]⟩
theorem cntB_perm {x : ByteArray} {xs ys : List ByteArray} (h : xs.Perm ys) : cntB x xs = cntB x ys := h.countP_eq _
theorem cntB_snoc (x y : ByteArray) (xs : List ByteArray) : cntB x (xs ++ [y]) = cntB x xs + if y = x then 1 else 0 := by
  unfold cntB
  rw [List.countP_append, List.countP_cons, List.countP_nil]
  by_cases h : y = x <;> simp [h]
theorem cntB_none {x : ByteArray} {xs : List ByteArray} (h : x ∉ xs) : cntB x xs = 0 := by
  unfold cntB
  rw [List.countP_eq_zero]
  intro y hy e
  exact h ((of_decide_eq_true e) ▸ hy)
theorem cntB_le (x : ByteArray) (xs : List ByteArray) : cntB x xs ≤ xs.length := List.countP_le_length
theorem counted_perm {xs ys ws : List ByteArray} {cs : List Int} (h : Counted xs ws cs) (p : xs.Perm ys) : Counted ys ws cs := by
  refine ⟨h.1, fun x => (h.2.1 x).trans p.mem_iff, ?_⟩
  rw [h.2.2]
  exact List.map_congr_left fun w _ => by rw [cntB_perm p]
theorem counted_nil : Counted [] [] [] := ⟨List.Pairwise.nil, fun x => Iff.rfl, rfl⟩
/-- A further word behind all others. -/
theorem counted_new {xs ws : List ByteArray} {cs : List Int} {w : ByteArray} (h : Counted xs ws cs) (hw : ∀ x ∈ ws, strLess x w = true) : Counted (xs ++ [w]) (ws ++ [w]) (cs ++ [1]) := by
  have hn : w ∉ ws := fun hm => by have := hw w hm; rw [strLess_irrefl] at this; cases this
  refine ⟨?_, fun x => ?_, ?_⟩
  · have := h.1
    unfold SortB at this ⊢
    exact List.pairwise_append.2 ⟨this, by simp, by simpa using hw⟩
  · rw [List.mem_append, List.mem_append, h.2.1 x]
  · rw [h.2.2, List.map_append]
    congr 1
    · refine List.map_congr_left fun y hy => ?_
      rw [cntB_snoc, if_neg (by rintro rfl; exact hn hy)]; rfl
    · rw [List.map_cons, List.map_nil, cntB_snoc, cntB_none (by rw [← h.2.1 w]; exact hn), if_pos rfl]; rfl
/-- The last word once more. -/
theorem counted_more {xs ws : List ByteArray} {cs : List Int} {w : ByteArray} {c : Int} (h : Counted xs (ws ++ [w]) (cs ++ [c])) : Counted (xs ++ [w]) (ws ++ [w]) (cs ++ [c + 1]) := by
  refine ⟨h.1, fun x => ?_, ?_⟩
  · rw [h.2.1 x, List.mem_append]
    constructor
    · exact Or.inl
    · rintro (hx | hx)
      · exact hx
      · have : x = w := by simpa using hx
        subst this
        exact (h.2.1 _).1 (by simp)
  · have e := h.2.2
    rw [List.map_append, List.map_cons, List.map_nil] at e ⊢
    have e2 := List.append_inj' e rfl
    have hs := h.1
    unfold SortB at hs
    have hw := (List.pairwise_append.1 hs).2.2
    rw [e2.1]
    have e3 : c = (cntB w xs : Int) := by simpa using e2.2
    congr 1
    · refine List.map_congr_left fun y hy => ?_
      have hyw := less_ne (hw y hy w (by simp))
      rw [cntB_snoc, if_neg (Ne.symm hyw)]; rfl
    · rw [cntB_snoc, if_pos rfl, e3]; rfl

/-! ### the words of a row, plainly -/
def insB (ws : List ByteArray) (w : ByteArray) : List ByteArray := if inB ws w = true then ws else ws.filter (fun x => strLess x w) ++ w :: ws.filter (fun x => strLess w x)
def wordsZ (xs : List ByteArray) : List ByteArray := xs.foldl insB []
theorem insB_ok {ws : List ByteArray} (h : SortB ws) (w : ByteArray) : SortB (insB ws w) ∧ ∀ x, x ∈ insB ws w ↔ x ∈ ws ∨ x = w := by
  unfold insB
  split
  · next hm0 =>
    have hm := inB_iff.1 hm0
    exact ⟨h, fun x => ⟨Or.inl, fun hx => hx.elim id (fun e => e ▸ hm)⟩⟩
  · next hm0 =>
    have hm : w ∉ ws := fun e => hm0 (inB_iff.2 e)
    constructor
    · unfold SortB at h ⊢
      refine List.pairwise_append.2 ⟨h.sublist List.filter_sublist, List.pairwise_cons.2 ⟨fun y hy => (List.mem_filter.1 hy).2, h.sublist List.filter_sublist⟩, ?_⟩
      intro x hx y hy
      have h1 := (List.mem_filter.1 hx).2
      rcases List.mem_cons.1 hy with rfl | hy
      · exact h1
      · exact strLess_trans h1 (List.mem_filter.1 hy).2
    · intro x
      rw [List.mem_append, List.mem_cons, List.mem_filter, List.mem_filter]
      constructor
      · rintro (⟨h1, _⟩ | rfl | ⟨h1, _⟩)
        · exact .inl h1
        · exact .inr rfl
        · exact .inl h1
      · rintro (h1 | rfl)
        · rcases b_cases (strLess x w) with e | e
          · have hne : x ≠ w := fun e' => hm (e' ▸ h1)
            exact .inr (.inr ⟨h1, not_less e hne⟩)
          · exact .inl ⟨h1, e⟩
        · exact .inr (.inl rfl)
theorem words_ok (xs : List ByteArray) : SortB (wordsZ xs) ∧ ∀ x, x ∈ wordsZ xs ↔ x ∈ xs := by
  unfold wordsZ
  have key : ∀ (xs ws : List ByteArray), SortB ws → SortB (xs.foldl insB ws) ∧ ∀ x, x ∈ xs.foldl insB ws ↔ x ∈ ws ∨ x ∈ xs := by
    intro xs
    induction xs with
    | nil => intro ws h; exact ⟨h, fun x => by simp⟩
    | cons y xs ih =>
      intro ws h
      obtain ⟨h1, h2⟩ := insB_ok h y
      obtain ⟨h3, h4⟩ := ih _ h1
      rw [List.foldl_cons]
      refine ⟨h3, fun x => ?_⟩
      rw [h4, h2, List.mem_cons, or_assoc]
  obtain ⟨h1, h2⟩ := key xs [] List.Pairwise.nil
  exact ⟨h1, fun x => by rw [h2]; simp⟩
theorem words_counted (xs : List ByteArray) : Counted xs (wordsZ xs) ((wordsZ xs).map fun w => (cntB w xs : Int)) := ⟨(words_ok xs).1, (words_ok xs).2, rfl⟩
theorem rise_new {ws : List ByteArray} {p w : ByteArray} (h : SortB ws) (hl : ws.getLast? = some p) (hr : strLess w p = false) (hne : w ≠ p) : ∀ x ∈ ws, strLess x w = true := by
  have hp : strLess p w = true := not_less hr hne
  obtain ⟨ws', rfl⟩ : ∃ ws', ws = ws' ++ [p] := by
    rcases List.eq_nil_or_concat ws with rfl | ⟨ws', y, rfl⟩
    · simp at hl
    · rw [List.concat_eq_append, List.getLast?_concat, Option.some.injEq] at hl
      exact ⟨ws', by rw [List.concat_eq_append, hl]⟩
  intro x hx
  rcases List.mem_append.1 hx with hx | hx
  · unfold SortB at h
    exact strLess_trans ((List.pairwise_append.1 h).2.2 x hx p (by simp)) hp
  · have : x = p := by simpa using hx
    rw [this]; exact hp
theorem last_split {α : Type} {ws : List α} {p : α} (hl : ws.getLast? = some p) : ∃ ws', ws = ws' ++ [p] := by
  rcases List.eq_nil_or_concat ws with rfl | ⟨ws', y, rfl⟩
  · simp at hl
  · rw [List.concat_eq_append, List.getLast?_concat, Option.some.injEq] at hl
    exact ⟨ws', by rw [List.concat_eq_append, hl]⟩

end Go.Proofs.YtcclfmapbgdpdaaGreatDoor
