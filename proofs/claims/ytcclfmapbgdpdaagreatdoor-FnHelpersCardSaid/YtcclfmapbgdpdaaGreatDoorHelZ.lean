/- Plain: valid lists of named things; who can do a task; the fillings of tasks. -/
import Derived.Test.YtcclfmapbgdpdaaGreatDoorReadHe
import Derived.Test.YtcclfmapbgdpdaaGreatDoorMg
import Derived.Test.YtcclfmapbgdpdaaGreatDoorListZ
namespace Go.Proofs.YtcclfmapbgdpdaaGreatDoor
open Go.RowKit
set_option linter.unusedVariables false

/-! ### helpers and tasks -/
/-- Can a helper do a task? -/
def canB (h x : HlpZ) : Bool := (bits .and .i64 h.sk x.sk == x.sk) && decide (h.n ≤ x.n)
theorem can_fin : ∀ a b : Fin 8, (bits .andNot .i64 ((b.val : Nat) : Int) ((a.val : Nat) : Int) == 0) = (bits .and .i64 ((a.val : Nat) : Int) ((b.val : Nat) : Int) == ((b.val : Nat) : Int)) := by decide +kernel
theorem can_not {a b : Int} (ha : 0 ≤ a ∧ a ≤ 7) (hb : 0 ≤ b ∧ b ≤ 7) : (bits .andNot .i64 b a == 0) = (bits .and .i64 a b == b) := by
  obtain ⟨x, rfl⟩ : ∃ x : Nat, a = (x : Int) := ⟨a.toNat, by omega⟩
  obtain ⟨y, rfl⟩ : ∃ y : Nat, b = (y : Int) := ⟨b.toNat, by omega⟩
  exact can_fin ⟨x, by omega⟩ ⟨y, by omega⟩
theorem hlp_sk {x : HlpZ} (h : hlpB x = true) : 0 ≤ x.sk ∧ x.sk ≤ 7 := by
  unfold hlpB at h
  simp only [Bool.and_eq_true] at h
  exact withinB_iff.1 h.2.1
/-- The helpers who can do a task. -/
def helpZ (hs : List HlpZ) (t : HlpZ) : List Int := idxK (fun h => canB h t) hs hs.length

/-! ### the most tasks that are filled, the first filling -/
def mostZ (H : HlpZ → List Int) : List HlpZ → List Int → Nat
  | [], _ => 0
  | t :: ts, g => (H t).foldl (fun m k => if k ∈ g then m else max m (1 + mostZ H ts (g ++ [k]))) (mostZ H ts g)
def fitZ (H : HlpZ → List Int) : List HlpZ → List Int → Option (List Int)
  | [], g => some g
  | t :: ts, g => (H t).findSome? fun k => if k ∈ g then none else fitZ H ts (g ++ [k])

theorem fold_max (g : List Int) (c : Int → Nat) : ∀ (l : List Int) (a : Nat), a ≤ l.foldl (fun m k => if k ∈ g then m else max m (c k)) a ∧ (∀ k ∈ l, k ∉ g → c k ≤ l.foldl (fun m k => if k ∈ g then m else max m (c k)) a) ∧
    (l.foldl (fun m k => if k ∈ g then m else max m (c k)) a = a ∨ ∃ k ∈ l, k ∉ g ∧ l.foldl (fun m k => if k ∈ g then m else max m (c k)) a = c k)
  | [], a => ⟨Nat.le_refl _, by simp, .inl rfl⟩
  | k :: l, a => by
    rw [List.foldl_cons]
    by_cases hk : k ∈ g
    · rw [if_pos hk]
      obtain ⟨h1, h2, h3⟩ := fold_max g c l a
      refine ⟨h1, fun j hj hn => ?_, ?_⟩
      · rcases List.mem_cons.1 hj with rfl | hj
        · exact absurd hk hn
        · exact h2 j hj hn
      · rcases h3 with h3 | ⟨j, h4, h5, h6⟩
        · exact .inl h3
        · exact .inr ⟨j, List.mem_cons_of_mem _ h4, h5, h6⟩
    · rw [if_neg hk]
      obtain ⟨h1, h2, h3⟩ := fold_max g c l (max a (c k))
      refine ⟨by omega, fun j hj hn => ?_, ?_⟩
      · rcases List.mem_cons.1 hj with rfl | hj
        · omega
        · exact h2 j hj hn
      · rcases h3 with h3 | ⟨j, h4, h5, h6⟩
        · by_cases hm : c k ≤ a
          · exact .inl (by rw [h3]; omega)
          · exact .inr ⟨k, List.mem_cons_self, hk, by rw [h3]; omega⟩
        · exact .inr ⟨j, List.mem_cons_of_mem _ h4, h5, h6⟩
theorem most_cases (H : HlpZ → List Int) (t : HlpZ) (ts : List HlpZ) (g : List Int) : mostZ H ts g ≤ mostZ H (t :: ts) g ∧ (∀ k ∈ H t, k ∉ g → 1 + mostZ H ts (g ++ [k]) ≤ mostZ H (t :: ts) g) ∧
    (mostZ H (t :: ts) g = mostZ H ts g ∨ ∃ k ∈ H t, k ∉ g ∧ mostZ H (t :: ts) g = 1 + mostZ H ts (g ++ [k])) := by
  rw [mostZ]
  exact fold_max g (fun k => 1 + mostZ H ts (g ++ [k])) (H t) (mostZ H ts g)
theorem most_le (H : HlpZ → List Int) : ∀ (ts : List HlpZ) (g : List Int), mostZ H ts g ≤ ts.length
  | [], _ => Nat.le_refl _
  | t :: ts, g => by
    rw [List.length_cons]
    rcases (most_cases H t ts g).2.2 with h | ⟨k, _, _, h⟩
    · have := most_le H ts g; omega
    · have := most_le H ts (g ++ [k]); omega
/-- Different numbers below n are at most n. -/
theorem nodup_bd : ∀ (n : Nat) (g : List Int), g.Nodup → (∀ x ∈ g, 0 ≤ x ∧ x < (n : Int)) → g.length ≤ n
  | 0, g, _, h => by
    cases g with
    | nil => simp
    | cons x g => have := h x List.mem_cons_self; omega
  | n + 1, g, hn, h => by
    have h1 := nodup_bd n (g.erase (n : Int)) (hn.erase _) (fun x hx => by
      have h2 := h x (List.mem_of_mem_erase hx)
      have h3 : x ≠ (n : Int) := ((hn.mem_erase_iff).1 hx).1
      omega)
    rw [List.length_erase] at h1
    split at h1 <;> omega
theorem most_list {H : HlpZ → List Int} {n : Nat} (hH : ∀ t, ∀ k ∈ H t, 0 ≤ k ∧ k < (n : Int)) : ∀ (ts : List HlpZ) (g : List Int), g.Nodup → (∀ x ∈ g, 0 ≤ x ∧ x < (n : Int)) → mostZ H ts g + g.length ≤ n
  | [], g, h1, h2 => by rw [mostZ, Nat.zero_add]; exact nodup_bd n g h1 h2
  | t :: ts, g, h1, h2 => by
    rcases (most_cases H t ts g).2.2 with h | ⟨k, hk, hg, h⟩
    · have := most_list hH ts g h1 h2; omega
    · have := most_list hH ts (g ++ [k]) (by rw [List.nodup_append]; exact ⟨h1, by simp, fun a ha b hb => by have e0 : b = k := (by simpa using hb); subst e0; exact fun e => hg (e ▸ ha)⟩) (fun x hx => by
        rcases List.mem_append.1 hx with hx | hx
        · exact h2 x hx
        · have : x = k := by simpa using hx
          subst this; exact hH t x hk)
      rw [List.length_append, List.length_cons, List.length_nil] at this
      omega
theorem most_can (H : HlpZ → List Int) : ∀ (ts : List HlpZ) (g : List Int), mostZ H ts g ≤ ts.countP (fun t => decide (0 < (H t).length))
  | [], _ => Nat.le_refl _
  | t :: ts, g => by
    rw [List.countP_cons]
    rcases (most_cases H t ts g).2.2 with h | ⟨k, hk, _, h⟩
    · have := most_can H ts g; omega
    · have := most_can H ts (g ++ [k])
      have h0 := List.length_pos_of_mem hk
      rw [decide_eq_true h0, if_pos rfl]
      omega
theorem most_pos (H : HlpZ → List Int) : ∀ ts : List HlpZ, 0 < ts.countP (fun t => decide (0 < (H t).length)) → 0 < mostZ H ts []
  | [], h => absurd h (by simp)
  | t :: ts, h => by
    obtain ⟨h1, h2, _⟩ := most_cases H t ts []
    by_cases h0 : 0 < (H t).length
    · obtain ⟨k, hk⟩ := List.exists_mem_of_length_pos h0
      have := h2 k hk (by simp)
      omega
    · rw [List.countP_cons, decide_eq_false h0] at h
      have := most_pos H ts (by simpa using h)
      omega
theorem fit_most (H : HlpZ → List Int) : ∀ (ts : List HlpZ) (g : List Int), (fitZ H ts g).isSome = true ↔ mostZ H ts g = ts.length
  | [], _ => by simp [fitZ, mostZ]
  | t :: ts, g => by
    obtain ⟨_, h2, h3⟩ := most_cases H t ts g
    rw [fitZ, List.findSome?_isSome_iff, List.length_cons]
    constructor
    · rintro ⟨k, hk, hs⟩
      by_cases hg : k ∈ g
      · rw [if_pos hg] at hs; cases hs
      · rw [if_neg hg] at hs
        have e := (fit_most H ts (g ++ [k])).1 hs
        have := h2 k hk hg
        have := most_le H (t :: ts) g
        rw [List.length_cons] at this
        omega
    · intro e
      rcases h3 with h | ⟨k, hk, hg, h⟩
      · have := most_le H ts g; omega
      · refine ⟨k, hk, ?_⟩
        rw [if_neg hg]
        exact (fit_most H ts (g ++ [k])).2 (by omega)
theorem fit_ok (H : HlpZ → List Int) : ∀ (ts : List HlpZ) (g r : List Int), fitZ H ts g = some r → ∃ s, r = g ++ s ∧ s.length = ts.length ∧ (g.Nodup → r.Nodup) ∧ ∀ (i : Nat) (t : HlpZ) (k : Int), ts[i]? = some t → s[i]? = some k → k ∈ H t
  | [], g, r, h => by
    rw [fitZ, Option.some.injEq] at h
    subst h
    exact ⟨[], by simp, rfl, id, by simp⟩
  | t :: ts, g, r, h => by
    rw [fitZ, List.findSome?_eq_some_iff] at h
    obtain ⟨l1, k, l2, hl, hk, _⟩ := h
    have hkH : k ∈ H t := by rw [hl]; simp
    by_cases hg : k ∈ g
    · rw [if_pos hg] at hk; cases hk
    · rw [if_neg hg] at hk
      obtain ⟨s, h1, h2, h3, h4⟩ := fit_ok H ts (g ++ [k]) r hk
      refine ⟨k :: s, by rw [h1]; simp, by rw [List.length_cons, h2, List.length_cons], fun hn => h3 (by rw [List.nodup_append]; exact ⟨hn, by simp, fun a ha b hb => by have e0 : b = k := (by simpa using hb); subst e0; exact fun e => hg (e ▸ ha)⟩), ?_⟩
      intro i t' k' ht hk'
      cases i with
      | zero =>
        simp only [List.getElem?_cons_zero, Option.some.injEq] at ht hk'
        subst ht; subst hk'
        exact hkH
      | succ i =>
        simp only [List.getElem?_cons_succ] at ht hk'
        exact h4 i t' k' ht hk'
/-- Those that are not given. -/
def idleZ (g : List Int) : Nat → List Int
  | 0 => []
  | n + 1 => if (n : Int) ∈ g then idleZ g n else idleZ g n ++ [(n : Int)]
theorem idle_congr {g g' : List Int} : ∀ n : Nat, (∀ k : Nat, k < n → ((k : Int) ∈ g ↔ (k : Int) ∈ g')) → idleZ g n = idleZ g' n
  | 0, _ => rfl
  | n + 1, h => by
    rw [idleZ, idleZ, idle_congr n (fun k hk => h k (by omega))]
    have := h n (by omega)
    by_cases hg : (n : Int) ∈ g
    · rw [if_pos hg, if_pos (this.1 hg)]
    · rw [if_neg hg, if_neg (fun e => hg (this.2 e))]
theorem idle_len : ∀ (n : Nat) (g : List Int), g.Nodup → (∀ x ∈ g, 0 ≤ x ∧ x < (n : Int)) → (idleZ g n).length + g.length = n
  | 0, g, h1, h2 => by
    have := nodup_bd 0 g h1 h2
    have : g = [] := List.eq_nil_of_length_eq_zero (by omega)
    subst this; rfl
  | n + 1, g, h1, h2 => by
    have ih := idle_len n (g.erase (n : Int)) (h1.erase _) (fun x hx => by
      have h3 := h2 x (List.mem_of_mem_erase hx)
      have h4 : x ≠ (n : Int) := ((h1.mem_erase_iff).1 hx).1
      omega)
    have e : idleZ (g.erase (n : Int)) n = idleZ g n := idle_congr n fun k hk => by
      rw [h1.mem_erase_iff]
      exact ⟨fun h => h.2, fun h => ⟨by omega, h⟩⟩
    rw [e, List.length_erase] at ih
    rw [idleZ]
    split
    · next hg =>
      rw [if_pos hg] at ih
      have := List.length_pos_of_mem hg
      omega
    · next hg =>
      rw [if_neg hg] at ih
      rw [List.length_append, List.length_cons, List.length_nil]
      omega
theorem idle_bd (g : List Int) (n : Nat) : ∀ x ∈ idleZ g n, 0 ≤ x ∧ x < (n : Int) := by
  induction n with
  | zero => simp [idleZ]
  | succ n ih =>
    intro x hx
    rw [idleZ] at hx
    split at hx
    · have := ih x hx; omega
    · rcases List.mem_append.1 hx with h | h
      · have := ih x h; omega
      · have : x = (n : Int) := by simpa using h
        omega

end Go.Proofs.YtcclfmapbgdpdaaGreatDoor
